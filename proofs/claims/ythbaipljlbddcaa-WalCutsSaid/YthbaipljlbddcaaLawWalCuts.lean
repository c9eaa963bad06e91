/-
  The place of a log that may be: the walk of ciboriumlaw08.tidy.
-/
import Derived.Test.YthbaipljlbddcaaLawA
import Derived.Test.YthbaipljlbddcaaLawA
import Derived.Test.YthbaipljlbddcaaLawA
import Derived.Test.YthbaipljlbddcaaCrc
import Derived.Test.YthbaipljlbddcaaSum
import Derived.Test.YthbaipljlbddcaaPut
import Derived.Test.YthbaipljlbddcaaLawA
import Derived.Test.YthbaipljlbddcaaLawA
import Derived.Test.YthbaipljlbddcaaArrs
import Derived.Test.YthbaipljlbddcaaGrow
namespace Go.Proofs.Ythbaipljlbddcaa
open Go.RowKit Go.Cib
def tidyLog (l : Int) : Int := 3 + (l.tmod 20 + 20).tmod 20
def tidySec (s l : Int) : Int := 2 + tidyLog l + 1 + (s.tmod 20 + 20).tmod 20
theorem mod20 (x : Int) : 0 ≤ (x.tmod 20 + 20).tmod 20 ∧ (x.tmod 20 + 20).tmod 20 < 20 ∧ -20 < x.tmod 20 ∧ x.tmod 20 < 20 := by
  have h1 := Int.tmod_lt_of_pos x (b := 20) (by decide)
  have h2 : -20 < x.tmod 20 := by have := Int.lt_tmod_of_pos x (b := 20) (by decide); omega
  have h3 : 0 ≤ x.tmod 20 + 20 := by omega
  exact ⟨Int.tmod_nonneg _ h3, Int.tmod_lt_of_pos _ (by decide), h2, h1⟩
theorem tidy_any (w : World) (s l : Int) : Calls Try.prog 8 #[.agg #[.int .i64 s, .int .i64 l]] w fun e w' => e = .returned (.tuple #[.int .i64 (tidyLog l), .int .i64 (tidySec s l)]) ∧ Tch [] w w' := by
  go_enter Try.func8, Try.ntmps8
  go_upto_region 2 with fail
  have t0 : Tch [] w (w.alloc (.cells #[.int .i64 s, .int .i64 l] 23)) := (Tch.refl _ _).alloc _
  have c0 : (w.alloc (.cells #[.int .i64 s, .int .i64 l] 23)).cell? ⟨w.heap.size, 0, none⟩ = some (.int .i64 s) := by simp
  generalize w.alloc (.cells #[.int .i64 s, .int .i64 l] 23) = w1 at *
  (refine wp_region_walk (C := fun w' => ∃ n, w' = World.drewN w1 n) 12 (by kernel_rfl) (by kernel_rfl) ⟨1, rfl⟩ ?_; simp only [List.take_succ_cons, List.take_zero, List.drop_succ_cons, List.drop_zero]; (repeat (first | fail | go_big_quiet_step (fail))); refine wpQuiet_nil ?_; intro _ hw'; obtain ⟨nq, hw''⟩ := hw'; subst hw'')
  go_wp2_with fail
  obtain ⟨l0, l1, l2, l3⟩ := mod20 l
  obtain ⟨s0, s1, s2, s3⟩ := mod20 s
  have e1 : wrap64 (l.tmod 20 + 20) = l.tmod 20 + 20 := by unfold wrap64; omega
  have e2 : wrap64 (s.tmod 20 + 20) = s.tmod 20 + 20 := by unfold wrap64; omega
  rw [e1, e2]
  have e3 : wrap64 (3 + (l.tmod 20 + 20).tmod 20) = tidyLog l := by unfold wrap64 tidyLog; omega
  rw [e3]
  have e4 : wrap64 (wrap64 (wrap64 (2 + tidyLog l) + 1) + (s.tmod 20 + 20).tmod 20) = tidySec s l := by unfold wrap64 tidySec tidyLog; omega
  rw [e4]
  go_ret2
  exact ⟨rfl, t0.trans (tch_drewN w1 nq)⟩
end Go.Proofs.Ythbaipljlbddcaa
/-
  A fresh log on a fresh disk, plain: what Format leaves, and what Open finds in it; for any place.
-/
namespace Go.Cib
open Go Go.RowKit
namespace BegunP
variable {k h : Nat}
def Fits (k h : Nat) : Prop := 3 ≤ k ∧ k ≤ 4000 ∧ 1 ≤ h ∧ 2 + k + h ≤ 16384
def D0 (k h : Nat) : DiskS := DiskS.made (2 + k + h)
theorem len0 : (D0 k h).lasts.length = 2 + k + h := by unfold D0 DiskS.made; simp
theorem calm0 (f : Fits k h) : (D0 k h).Calm := ⟨rfl, rfl, DiskS.Ok.made (by omega) f.2.2.2⟩
def L0 (k h : Nat) : LogS := ⟨D0 k h, k, h, 1, 0, 0, fun _ => none, false⟩
theorem fresh0 : LogS.fresh (D0 k h) k = L0 k h := by
  unfold LogS.fresh L0; rw [len0, show 2 + k + h - 2 - k = h by omega]
theorem in1 : DiskS.InA ((2 + k + h : Nat) : Int) (LogS.fmtA k) := by
  intro i s hi
  unfold LogS.fmtA at hi
  rcases List.mem_append.1 hi with hi | hi
  · obtain ⟨q, hq, e⟩ := List.mem_map.1 hi
    cases e
    have := List.mem_range.1 hq
    omega
  · simp at hi
theorem in2 : DiskS.InA ((2 + k + h : Nat) : Int) (L0 k h).fmtB := by
  intro i s hi
  unfold LogS.fmtB at hi
  rcases List.mem_append.1 hi with hi | hi
  · obtain ⟨q, hq, e⟩ := List.mem_map.1 hi
    cases e
    have hq' : q < h := List.mem_range.1 hq
    show 0 ≤ ((2 + k + q : Nat) : Int) ∧ ((2 + k + q : Nat) : Int) < ((2 + k + h : Nat) : Int)
    omega
  · simp at hi
theorem in3 : DiskS.InA ((2 + k + h : Nat) : Int) (L0 k h).headAs := by
  intro i s hi
  unfold LogS.headAs at hi
  simp at hi
  rw [hi.1]
  show 0 ≤ ((1 % 2 : Nat) : Int) ∧ ((1 % 2 : Nat) : Int) < ((2 + k + h : Nat) : Int)
  omega
def D1 (k h : Nat) : DiskS := (LogS.format (D0 k h) k).2
def all1 (k h : Nat) : List DAct := LogS.fmtA k ++ (L0 k h).fmtB ++ (L0 k h).headAs
theorem fmt (f : Fits k h) : (LogS.format (D0 k h) k).1 = 0 ∧ (D1 k h).Calm ∧ (D1 k h).lasts.length = 2 + k + h ∧ (D1 k h).waits = (fun _ => none) ∧ ∀ (j : Int), 0 ≤ j → j < ((2 + k + h : Nat) : Int) → (D1 k h).at_ j = DiskS.layA (D0 k h).at_ (all1 k h) j := by
  obtain ⟨f1, f2, f3, f4⟩ := id f
  obtain ⟨a1, a2, a3⟩ := (calm0 f).acts (LogS.fmtA k) (by rw [len0]; exact in1)
  have l1 : ((D0 k h).acts (LogS.fmtA k)).2.lasts.length = 2 + k + h := by rw [DiskS.length_acts]; exact len0
  obtain ⟨b1, b2, b3⟩ := a2.acts (L0 k h).fmtB (by rw [l1]; exact in2)
  have l2 : (((D0 k h).acts (LogS.fmtA k)).2.acts (L0 k h).fmtB).2.lasts.length = 2 + k + h := by rw [DiskS.length_acts]; exact l1
  obtain ⟨c1, c2, c3⟩ := b2.acts (L0 k h).headAs (by rw [l2]; exact in3)
  have e : LogS.format (D0 k h) k = (((D0 k h).acts (LogS.fmtA k)).2.acts (L0 k h).fmtB).2.acts (L0 k h).headAs := by
    unfold LogS.format
    rw [if_neg (by omega), if_neg (by omega), if_neg (by rw [len0]; omega)]
    rw [Int.toNat_natCast, fresh0]
    rw [if_neg (by rw [a1]; simp), if_neg (by rw [b1]; simp)]
  have hw : ((((D0 k h).acts (LogS.fmtA k)).2.acts (L0 k h).fmtB).2.acts (L0 k h).headAs).2.waits = fun _ => none := by
    have : (L0 k h).headAs = [.write (((L0 k h).gen % 2 : Nat) : Int) (L0 k h).headF.sector] ++ [.flush] := rfl
    rw [this]
    refine DiskS.flush_waits b2 _ ?_
    rw [l2]
    intro i s hi
    exact in3 i s (by rw [this]; exact List.mem_append_left _ hi)
  unfold D1
  rw [e]
  refine ⟨c1, c2, by rw [DiskS.length_acts]; exact l2, hw, fun j h0 h1 => ?_⟩
  rw [c3 j h0 (by rw [l2]; exact h1)]
  unfold all1
  rw [DiskS.layA_append, DiskS.layA_append]
  refine DiskS.layA_congr (n := ((2 + k + h : Nat) : Int)) (fun j g0 g1 => ?_) _ j h0 h1
  rw [b3 j g0 (by rw [l1]; exact g1)]
  exact DiskS.layA_congr (n := ((2 + k + h : Nat) : Int)) (fun j k0 k1 => a3 j k0 (by rw [len0]; exact k1)) _ j g0 g1
theorem lay_range (f : Int → Sec) (b : Nat) (s : Nat → Sec) : ∀ (n : Nat) (j : Int), DiskS.layA f ((List.range n).map fun i => DAct.write ((b + i : Nat) : Int) (s i)) j = if (b : Int) ≤ j ∧ j < ((b + n : Nat) : Int) then s (j - b).toNat else f j
  | 0, j => by rw [if_neg (by omega)]; rfl
  | n + 1, j => by
    rw [List.range_succ, List.map_append, DiskS.layA_append]
    show (if j = ((b + n : Nat) : Int) then s n else DiskS.layA f ((List.range n).map fun i => DAct.write ((b + i : Nat) : Int) (s i)) j) = _
    rw [lay_range f b s n j]
    by_cases h : j = ((b + n : Nat) : Int)
    · rw [if_pos h, if_pos (by omega), show (j - b).toNat = n by omega]
    · rw [if_neg h]
      by_cases h2 : (b : Int) ≤ j ∧ j < ((b + n : Nat) : Int)
      · rw [if_pos h2, if_pos (by omega)]
      · rw [if_neg h2, if_neg (by omega)]
theorem at1 (f : Fits k h) (j : Nat) (hj : j < 2 + k + h) : (D1 k h).at_ (j : Int) = if j = 1 then (L0 k h).headF.sector else if 2 + k ≤ j then ((L0 k h).homeF (j - (2 + k)) Arr.zero).sector else Arr.zero := by
  rw [(fmt f).2.2.2.2 j (by omega) (by omega)]
  unfold all1
  rw [DiskS.layA_append, DiskS.layA_append]
  have e3 : (L0 k h).headAs = [.write ((1 : Nat) : Int) (L0 k h).headF.sector, .flush] := rfl
  have e2 : (L0 k h).fmtB = ((List.range h).map fun p => DAct.write ((2 + k + p : Nat) : Int) ((L0 k h).homeF p Arr.zero).sector) ++ [.flush] := rfl
  have e1 : LogS.fmtA k = ((List.range (k + 2)).map fun (i : Nat) => DAct.write ((0 + i : Nat) : Int) Arr.zero) ++ [.flush] := by
    unfold LogS.fmtA; simp only [Nat.zero_add]
  rw [e3, e2, e1]
  show (if (j : Int) = ((1 : Nat) : Int) then _ else _) = _
  by_cases h1 : j = 1
  · rw [if_pos (by omega), if_pos h1]
  · rw [if_neg (by omega), if_neg h1, DiskS.layA_append]
    show DiskS.layA _ ((List.range h).map fun p => DAct.write ((2 + k + p : Nat) : Int) ((L0 k h).homeF p Arr.zero).sector) (j : Int) = _
    rw [lay_range _ (2 + k) (fun p => ((L0 k h).homeF p Arr.zero).sector) h]
    by_cases h2 : 2 + k ≤ j
    · rw [if_pos (by omega), if_pos h2, show ((j : Int) - ((2 + k : Nat) : Int)).toNat = j - (2 + k) by omega]
    · rw [if_neg (by omega), if_neg h2, DiskS.layA_append]
      show DiskS.layA _ ((List.range (k + 2)).map fun (i : Nat) => DAct.write ((0 + i : Nat) : Int) Arr.zero) (j : Int) = _
      rw [lay_range _ 0 (fun _ => Arr.zero) (k + 2), if_pos (by omega)]
/-- The log on it. -/
def S1 (k h : Nat) : LogS := ⟨D1 k h, k, h, 1, 0, 0, fun _ => none, false⟩
theorem heads_of {D : DiskS} (f : Fits k h) (hc : D.Calm) (hl : D.lasts.length = 2 + k + h) (h0 : D.at_ 0 = Arr.zero) (h1 : D.at_ 1 = (L0 k h).headF.sector) : LogS.heads D = ⟨D, k, h, 1, 0, 0, fun _ => none, false⟩ := by
  obtain ⟨f1, f2, f3, f4⟩ := id f
  have r0 : D.read 0 = (Arr.zero, 0) := by rw [hc.read (by decide) (by rw [hl]; omega), h0]
  have r1 : D.read 1 = ((L0 k h).headF.sector, 0) := by rw [hc.read (by decide) (by rw [hl]; omega), h1]
  unfold LogS.heads
  rw [r0, r1]
  simp only
  rw [LogS.chooses_zero]
  have e : (L0 k h).headF = ⟨1, 1, 0, 0, numsPage [k, h]⟩ := rfl
  rw [e, LogS.chooses_of (S := LogS.blank D) (g := 1) (log := k) (pages := h) (show (0 : Nat) < 1 by decide) (by decide) (by decide) f1 f2 f3 (by omega) (by rw [show (LogS.blank D).disk = D from rfl, hl])]
  rfl
theorem z0 (f : Fits k h) : (D1 k h).at_ 0 = Arr.zero := by
  have := at1 f 0 (by omega)
  rw [if_neg (by omega), if_neg (by omega)] at this
  exact this
theorem z1 (f : Fits k h) : (D1 k h).at_ 1 = (L0 k h).headF.sector := by
  have := at1 f 1 (by omega)
  rw [if_pos rfl] at this
  exact this
theorem z2 (f : Fits k h) : (D1 k h).at_ 2 = Arr.zero := by
  have hf := f.1
  have := at1 f 2 (by omega)
  rw [if_neg (by omega), if_neg (by omega)] at this
  exact this
theorem open1 (f : Fits k h) : LogS.opens (D1 k h) = (0, some (S1 k h), D1 k h) := by
  obtain ⟨_, hc, hl, _, _⟩ := fmt f
  have hh := heads_of f hc hl (z0 f) (z1 f)
  have e0 : ((D1 k h).read 0).2 = 0 := by rw [hc.read (by decide) (by rw [hl]; omega)]
  have e1 : ((D1 k h).read 1).2 = 0 := by rw [hc.read (by decide) (by rw [hl]; omega)]
  have hr : (S1 k h).record = none := by
    apply LogS.record_none
    apply LogS.atOk_none
    show reads ((D1 k h).at_ 2) = none
    rw [z2 f]; exact reads_zero
  have hk : (S1 k h).checkpoint = (0, S1 k h) := by
    unfold LogS.checkpoint
    rw [if_neg (by show ¬ false = true; decide), if_pos (by rfl)]
  have hg : ¬ (LogS.heads (D1 k h)).gen = 0 := by rw [hh]; exact Nat.one_ne_zero
  have hr' : ((LogS.heads (D1 k h)).runs (LogS.heads (D1 k h)).log).checkpoint = (0, S1 k h) := by
    rw [hh]
    show ((S1 k h).runs k).checkpoint = _
    rw [LogS.runs_stop k (S1 k h) hr, hk]
  unfold LogS.opens
  rw [if_neg (not_not_intro e0), if_neg (not_not_intro e1), if_neg hg, hr', if_neg (not_not_intro rfl)]
  rfl
end BegunP
end Go.Cib
/-
  What a disk is behind a failure of the power, plain: each sector is what it was, or one that was written to it; no Go in it.
-/
namespace Go.Cib
open Go Go.RowKit
namespace DiskS
def lastAt (D : DiskS) (j : Int) : Sec := D.lasts.getD j.toNat Arr.zero
/-- Each sector is what it was, or one of those that were written. -/
def Mix (n : Nat) (f : Int → Sec) (W : DAct → Prop) (D : DiskS) : Prop :=
  ∀ j : Int, 0 ≤ j → j < (n : Int) → (D.lastAt j = f j ∨ W (.write j (D.lastAt j))) ∧ ∀ s, D.waits j = some s → W (.write j s)
theorem Mix.at_ {n : Nat} {f : Int → Sec} {W : DAct → Prop} {D : DiskS} (h : Mix n f W D) {j : Int} (h0 : 0 ≤ j) (h1 : j < (n : Int)) : D.at_ j = f j ∨ W (.write j (D.at_ j)) := by
  unfold DiskS.at_
  cases hw : D.waits j with
  | none => exact (h j h0 h1).1
  | some s => exact .inr ((h j h0 h1).2 s hw)
theorem Mix.put {n : Nat} {f : Int → Sec} {W : DAct → Prop} {D : DiskS} (h : Mix n f W D) (i : Int) (s : Sec) (hw : W (.write i s)) : Mix n f W (D.put i s) := by
  intro j h0 h1
  refine ⟨(h j h0 h1).1, fun t ht => ?_⟩
  change (if j = i then some s else D.waits j) = some t at ht
  by_cases e : j = i
  · rw [if_pos e] at ht; cases ht; rw [e]; exact hw
  · rw [if_neg e] at ht; exact (h j h0 h1).2 t ht
theorem Mix.goes {n : Nat} {f : Int → Sec} {W : DAct → Prop} {D : DiskS} (h : Mix n f W D) : Mix n f W D.goes := by
  unfold DiskS.goes
  split
  · exact h
  · exact h
theorem Mix.counted {n : Nat} {f : Int → Sec} {W : DAct → Prop} {D : DiskS} (h : Mix n f W D) : Mix n f W D.counted := h
theorem lastAt_flushed (D : DiskS) {j : Int} (h0 : 0 ≤ j) (h1 : j < D.lasts.length) : D.flushed.lastAt j = D.at_ j := by
  unfold lastAt flushed DiskS.at_
  have h2 : j.toNat < D.lasts.length := by omega
  rw [List.getD_eq_getElem?_getD, getElem?_lay, List.getElem?_eq_getElem h2]
  have e : ((j.toNat : Nat) : Int) = j := by omega
  simp only [Option.map_some, Option.getD_some, e]
  rw [List.getD_eq_getElem?_getD, List.getElem?_eq_getElem h2]
  rfl
theorem Mix.flushed {f : Int → Sec} {W : DAct → Prop} {D : DiskS} (h : Mix D.lasts.length f W D) : Mix D.lasts.length f W D.flushed := by
  intro j h0 h1
  refine ⟨?_, fun s hs => by cases hs⟩
  rw [lastAt_flushed D h0 h1]
  exact h.at_ h0 h1
theorem goes_alive {D : DiskS} (h : D.went = false) (hd : D.dead = false) : D.goes.dead = false ∧ (D.armed = 0 → D.goes.armed = 0) := by
  unfold DiskS.goes
  unfold DiskS.went at h
  split
  · rename_i e; exact ⟨hd, fun _ => e⟩
  · rename_i e; exact ⟨h, fun e2 => absurd e2 e⟩
theorem goes_dies {D : DiskS} (h : D.went = true) : D.goes.dead = true ∧ D.armed ≠ 0 := by
  unfold DiskS.went at h
  have e : D.armed = 1 := by simpa using h
  unfold DiskS.goes
  rw [if_neg (by omega)]
  exact ⟨h, by omega⟩
theorem at_goes (D : DiskS) (j : Int) : D.goes.at_ j = D.at_ j := by
  unfold DiskS.goes; split <;> rfl
theorem may_in {D : DiskS} (hd : D.dead = false) {i : Int} (h0 : 0 ≤ i) (h1 : i < D.lasts.length) : D.may i = 0 := by
  unfold DiskS.may; rw [if_neg (by simp [hd]), if_neg (by omega), if_neg (by omega)]
theorem at_flushed' (D : DiskS) {j : Int} (h0 : 0 ≤ j) (h1 : j < D.lasts.length) : D.flushed.at_ j = D.at_ j := lastAt_flushed D h0 h1
/-- So many acts of a disk that is alive: all are done, or the power went in one of them. -/
theorem acts_go {n : Nat} {f : Int → Sec} {W : DAct → Prop} (xs : List DAct) : ∀ {D : DiskS}, D.dead = false → D.Ok → D.lasts.length = n → InA (n : Int) xs → (∀ x ∈ xs, W x) → Mix n f W D →
    ((D.acts xs).1 = 0 ∧ (D.acts xs).2.dead = false ∧ (D.acts xs).2.Ok ∧ Mix n f W (D.acts xs).2 ∧ (∀ j : Int, 0 ≤ j → j < (n : Int) → (D.acts xs).2.at_ j = layA D.at_ xs j) ∧ (D.armed = 0 → (D.acts xs).2.armed = 0)) ∨
    ((D.acts xs).1 = 6 ∧ (D.acts xs).2.dead = true ∧ (D.acts xs).2.Ok ∧ D.armed ≠ 0 ∧ Mix n f W (D.acts xs).2) := by
  induction xs with
  | nil => exact fun hd ok _ _ _ hm => .inl ⟨rfl, hd, ok, hm, fun _ _ _ => rfl, fun h => h⟩
  | cons x xs ih =>
    intro D hd ok hl hin hW hm
    rw [acts_cons]
    have hin' : InA (n : Int) xs := fun i s hmm => hin i s (List.mem_cons_of_mem _ hmm)
    have hW' : ∀ y ∈ xs, W y := fun y hy => hW y (List.mem_cons_of_mem _ hy)
    have okx := ok.act x
    have lx := length_act D x
    cases x with
    | write i s =>
      obtain ⟨h0, h1⟩ := hin i s (by simp)
      have hma := may_in hd h0 (by rw [hl]; exact h1)
      have e : D.act (.write i s) = (if D.went = true then 6 else 0, (D.put i s).goes) := by
        show D.write i s = _
        unfold DiskS.write
        rw [if_pos hma]
      have hm2 : Mix n f W (D.put i s).goes := (hm.put i s (hW _ (by simp))).goes
      rw [e] at okx lx ⊢
      by_cases hw : D.went = true
      · rw [if_pos hw, if_neg (show ¬ (6 : Int) = 0 by decide)]
        obtain ⟨d1, d2⟩ := goes_dies (D := D.put i s) hw
        exact .inr ⟨rfl, d1, okx, d2, hm2⟩
      · rw [if_neg hw, if_pos rfl]
        obtain ⟨a1, a2⟩ := goes_alive (D := D.put i s) ((Bool.not_eq_true _).mp hw) hd
        rcases ih (D := (D.put i s).goes) a1 okx (lx.trans hl) hin' hW' hm2 with ⟨k1, k2, k3, k4, k5, k6⟩ | ⟨k1, k2, k3, k4, k5⟩
        · refine .inl ⟨k1, k2, k3, k4, fun j g0 g1 => ?_, fun h => k6 (a2 h)⟩
          rw [k5 j g0 g1]
          exact layA_congr (n := (n : Int)) (fun j' _ _ => by rw [at_goes]; exact at_put D i s j') xs j g0 g1
        · exact .inr ⟨k1, k2, k3, fun h => k4 (a2 h), k5⟩
    | flush =>
      have e : D.act .flush = D.flush := rfl
      rw [e] at okx lx ⊢
      have hf : D.flush = if D.went = true then (6, D.counted.goes) else (0, D.counted.goes.flushed) := by
        unfold DiskS.flush; rw [if_neg (by simp [hd])]
      rw [hf] at okx lx ⊢
      have hm2 : Mix n f W D.counted.goes := hm.counted.goes
      by_cases hw : D.went = true
      · rw [if_pos hw] at okx ⊢
        rw [if_neg (show ¬ (6 : Int) = 0 by decide)]
        obtain ⟨d1, d2⟩ := goes_dies (D := D.counted) hw
        exact .inr ⟨rfl, d1, okx, d2, hm2⟩
      · rw [if_neg hw] at okx lx ⊢
        rw [if_pos rfl]
        obtain ⟨a1, a2⟩ := goes_alive (D := D.counted) ((Bool.not_eq_true _).mp hw) hd
        have hl2 : D.counted.goes.lasts.length = n := by rw [length_goes]; exact hl
        have hm3 : Mix n f W D.counted.goes.flushed := by
          have := Mix.flushed (f := f) (W := W) (D := D.counted.goes) (by rw [hl2]; exact hm2)
          rw [hl2] at this; exact this
        rcases ih (D := D.counted.goes.flushed) a1 okx (lx.trans hl) hin' hW' hm3 with ⟨k1, k2, k3, k4, k5, k6⟩ | ⟨k1, k2, k3, k4, k5⟩
        · refine .inl ⟨k1, k2, k3, k4, fun j g0 g1 => ?_, fun h => k6 (a2 h)⟩
          rw [k5 j g0 g1]
          exact layA_congr (n := (n : Int)) (fun j' b0 b1 => by rw [at_flushed' _ b0 (by rw [hl2]; exact b1), at_goes]; rfl) xs j g0 g1
        · exact .inr ⟨k1, k2, k3, fun h => k4 (a2 h), k5⟩
/-- Behind the last flush nothing waits. -/
theorem acts_flush (D : DiskS) (xs : List DAct) (h : (D.acts (xs ++ [.flush])).1 = 0) : (D.acts (xs ++ [.flush])).2.waits = fun _ => none := by
  rw [acts_append] at h ⊢
  split
  · rename_i h2
    rw [if_pos h2, acts_one] at h
    rw [acts_one]
    change (D.acts xs).2.flush.1 = 0 at h
    show (D.acts xs).2.flush.2.waits = _
    unfold DiskS.flush at h ⊢
    split
    · rename_i h3; rw [if_pos h3] at h; cases h
    · rename_i h3
      rw [if_neg h3] at h
      split
      · rename_i h4; rw [if_pos h4] at h; cases h
      · rfl
  · rename_i h2
    rw [if_neg h2] at h
    exact absurd h h2
/-- A disk on which nothing waits: each sector is what is read. -/
theorem Mix.of_still {D : DiskS} (h : D.waits = fun _ => none) (W : DAct → Prop) : Mix D.lasts.length D.at_ W D := by
  intro j h0 h1
  refine ⟨.inl ?_, fun s hs => by rw [h] at hs; cases hs⟩
  unfold DiskS.at_ lastAt
  rw [h]; rfl
/-- The power comes back. -/
theorem Mix.on {n : Nat} {f : Int → Sec} {W : DAct → Prop} {E : DiskS} (hm : Mix n f W E) (hl : E.lasts.length = n) (ok : E.Ok) (hd : E.dead = true) (keep : List Int) :
    (E.on keep).1 = 0 ∧ (E.on keep).2.dead = false ∧ (E.on keep).2.Ok ∧ (E.on keep).2.lasts.length = n ∧ (E.on keep).2.waits = (fun _ => none) ∧ (E.on keep).2.armed = E.armed ∧ ∀ j : Int, 0 ≤ j → j < (n : Int) → (E.on keep).2.at_ j = f j ∨ W (.write j ((E.on keep).2.at_ j)) := by
  have ok2 := ok.on keep
  have e : E.on keep = (0, { E with dead := false, lasts := lay E.lasts (E.kept keep), waits := fun _ => none }) := by
    unfold DiskS.on; rw [if_pos hd]
  rw [e] at ok2 ⊢
  refine ⟨rfl, rfl, ok2, (length_lay _ _).trans hl, rfl, rfl, fun j h0 h1 => ?_⟩
  have h2 : j.toNat < E.lasts.length := by omega
  have e1 : (({ E with dead := false, lasts := lay E.lasts (E.kept keep), waits := fun _ => none } : DiskS).at_ j) = (E.kept keep j).getD (E.lastAt j) := by
    show (lay E.lasts (E.kept keep)).getD j.toNat Arr.zero = _
    unfold lastAt
    rw [List.getD_eq_getElem?_getD, getElem?_lay, List.getElem?_eq_getElem h2]
    have e : ((j.toNat : Nat) : Int) = j := by omega
    simp only [Option.map_some, Option.getD_some, e]
    rw [List.getD_eq_getElem?_getD, List.getElem?_eq_getElem h2]
    rfl
  rw [e1]
  unfold kept
  split
  · cases hw : E.waits j with
    | none => exact (hm j h0 h1).1
    | some s => exact .inr ((hm j h0 h1).2 s hw)
  · exact (hm j h0 h1).1
end DiskS
end Go.Cib
/-
  A log that is sound, plain: what lies on its disk, and what is left of it wherever the power goes; no Go in it.
-/
namespace Go.Cib
open Go Go.RowKit
namespace LogS
abbrev Rec := List (Nat × Page)
/-- The pages behind a record. -/
def putNow (now : Nat → Page) (ws : Rec) : Nat → Page := ws.foldl (fun n q p => if p = q.1 then q.2 else n p) now
theorem overs_now (ws : Rec) : ∀ (o : Int → Option Page) (now : Nat → Page) (p : Nat), (∀ x, o (p : Int) = some x → now p = x) →
    (∀ x, overs o ws (p : Int) = some x → putNow now ws p = x) ∧ (overs o ws (p : Int) = none → o (p : Int) = none ∧ putNow now ws p = now p) := by
  induction ws with
  | nil => exact fun o now p h => ⟨h, fun h2 => ⟨h2, rfl⟩⟩
  | cons q ws ih =>
    intro o now p h
    have k := ih (fun p => if p = (q.1 : Int) then some q.2 else o p) (fun p => if p = q.1 then q.2 else now p) p (by
      intro x hx
      by_cases e : p = q.1
      · subst e; simp only [if_true] at hx ⊢; exact Option.some.inj hx
      · have e2 : ¬ ((p : Int) = (q.1 : Int)) := by omega
        simp only [e, e2, if_false] at hx ⊢; exact h x hx)
    refine ⟨k.1, fun h2 => ?_⟩
    obtain ⟨k2, k3⟩ := k.2 h2
    by_cases e : p = q.1
    · subst e; simp only [if_true] at k2; cases k2
    · have e2 : ¬ ((p : Int) = (q.1 : Int)) := by omega
      simp only [e2, if_false] at k2
      refine ⟨k2, ?_⟩
      show putNow (fun p => if p = q.1 then q.2 else now p) ws p = _
      rw [k3]; simp only [e, if_false]
/-- What a sector may say that lies behind the records. -/
def Old (g r : Nat) (s : Sec) : Prop := ∀ f, reads s = some f → f.gen < g ∨ (f.gen = g ∧ (f.num < r ∨ (f.num = r ∧ f.kind ≠ 4)))
/-- A record lies there whole. -/
structure LiesR (m : Int → Sec) (S : LogS) (ws : Rec) : Prop where
  n1 : 1 ≤ ws.length
  n2 : ws.length ≤ 120
  room : S.used + ws.length + 2 ≤ S.log
  lt : ∀ q ∈ ws, q.1 < S.pages
  nodup : (ws.map (·.1)).Nodup
  a2 : m ((2 + S.used : Nat) : Int) = (S.rec_ (frame2 (ws.map (·.1)))).sector
  a3 : ∀ k q, ws[k]? = some q → m ((3 + S.used + k : Nat) : Int) = (S.rec_ (frame3 k q.2)).sector
  a4 : m ((3 + S.used + ws.length : Nat) : Int) = (S.rec_ (frame4 ws.length)).sector
def Lies (m : Int → Sec) : LogS → List Rec → LogS → Prop
  | S, [], T => T = S
  | S, r :: rs, T => LiesR m S r ∧ Lies m (S.took r) rs T
theorem Lies.snoc {m : Int → Sec} : ∀ {rs : List Rec} {S T : LogS} {r : Rec}, Lies m S rs T → LiesR m T r → Lies m S (rs ++ [r]) (T.took r)
  | [], S, T, r, h, hr => by cases h; exact ⟨hr, rfl⟩
  | x :: rs, S, T, r, h, hr => ⟨h.1, Lies.snoc (rs := rs) h.2 hr⟩
theorem Lies.grow {m : Int → Sec} : ∀ {rs : List Rec} {S T : LogS}, Lies m S rs T → S.used ≤ T.used ∧ S.used + rs.length ≤ T.used ∧ S.log = T.log ∧ T.disk = S.disk
  | [], S, T, h => by cases h; exact ⟨Nat.le_refl _, Nat.le_refl _, rfl, rfl⟩
  | x :: rs, S, T, h => by
    obtain ⟨k1, k2, k3, k4⟩ := Lies.grow (rs := rs) h.2
    have e1 : (S.took x).used = S.used + x.length + 2 := rfl
    have e2 : (S.took x).log = S.log := rfl
    rw [e1] at k1 k2
    rw [e2] at k3
    exact ⟨by omega, by rw [List.length_cons]; omega, k3, k4⟩
theorem LiesR.congr {m m' : Int → Sec} {S : LogS} {r : Rec} (h : LiesR m S r) (hm : ∀ p, p < S.used + r.length + 2 → m' ((2 + p : Nat) : Int) = m ((2 + p : Nat) : Int)) : LiesR m' S r := by
  refine ⟨h.n1, h.n2, h.room, h.lt, h.nodup, ?_, fun k q hk => ?_, ?_⟩
  · rw [hm S.used (by omega)]; exact h.a2
  · have hkl := (List.getElem?_eq_some_iff.1 hk).1
    rw [show 3 + S.used + k = 2 + (1 + S.used + k) by omega, hm (1 + S.used + k) (by omega), show 2 + (1 + S.used + k) = 3 + S.used + k by omega]; exact h.a3 k q hk
  · rw [show 3 + S.used + r.length = 2 + (1 + S.used + r.length) by omega, hm _ (by omega), show 2 + (1 + S.used + r.length) = 3 + S.used + r.length by omega]; exact h.a4
theorem Lies.congr {m m' : Int → Sec} : ∀ {rs : List Rec} {S T : LogS}, Lies m S rs T → (∀ p, p < T.used → m' ((2 + p : Nat) : Int) = m ((2 + p : Nat) : Int)) → Lies m' S rs T
  | [], S, T, h, hm => h
  | x :: rs, S, T, h, hm => by
    have k := (Lies.grow (rs := rs) h.2).1
    have e1 : (S.took x).used = S.used + x.length + 2 := rfl
    rw [e1] at k
    exact ⟨h.1.congr fun p hp => hm p (by omega), Lies.congr (rs := rs) h.2 hm⟩
def on (S : LogS) (D : DiskS) : LogS := { S with disk := D }
theorem Lies.on {m : Int → Sec} (D : DiskS) : ∀ {rs : List Rec} {S T : LogS}, Lies m S rs T → Lies m (S.on D) rs (T.on D)
  | [], S, T, h => by cases h; rfl
  | x :: rs, S, T, h => ⟨⟨h.1.n1, h.1.n2, h.1.room, h.1.lt, h.1.nodup, h.1.a2, h.1.a3, h.1.a4⟩, Lies.on D (rs := rs) h.2⟩
/-- All records are found. -/
theorem Lies.runs : ∀ {rs : List Rec} {S T : LogS}, S.Ok → Lies S.disk.at_ S rs T → T.record = none → ∀ n, rs.length ≤ n → S.runs n = T
  | [], S, T, _, h, hn, n, _ => by cases h; exact runs_stop n _ hn
  | x :: rs, S, T, ok, h, hn, 0, hl => by simp at hl
  | x :: rs, S, T, ok, h, hn, n + 1, hl => by
    have hr : S.record = some x := record_of ok h.1.n1 h.1.n2 h.1.room h.1.lt h.1.nodup h.1.a2 h.1.a3 h.1.a4
    rw [runs_succ, hr]
    exact Lies.runs (rs := rs) (ok.took h.1.room h.1.lt) h.2 hn n (by simpa using hl)
/-- What lies on a disk of a log that is sound; z: nothing behind its records can be taken for one. -/
structure Lay (z : Bool) (m : Int → Sec) (S : LogS) (now : Nat → Page) : Prop where
  log3 : 3 ≤ S.log
  log4 : S.log ≤ 4000
  pages1 : 1 ≤ S.pages
  pages2 : S.pages ≤ 16384
  used : S.used ≤ S.log
  records : S.records ≤ S.used
  sup : ∀ i x, S.over i = some x → 0 ≤ i ∧ i < S.pages
  gen1 : 1 ≤ S.gen
  gen2 : S.gen < 18446744073709551616
  head : m ((S.gen % 2 : Nat) : Int) = S.headF.sector
  other : ∀ f, reads (m (((S.gen + 1) % 2 : Nat) : Int)) = some f → f.gen < S.gen
  recs : ∃ rs, Lies m { S.cleared with dead := false } rs { S with dead := false }
  gens : z = true → ∀ p, p < S.log → ∀ f, reads (m ((2 + p : Nat) : Int)) = some f → f.gen ≤ S.gen
  zone : z = true → ∀ p, S.used ≤ p → p < S.log → Old S.gen S.records (m ((2 + p : Nat) : Int))
  homes : ∀ p, p < S.pages → S.over (p : Int) = none → ∃ T : LogS, T.gen < 18446744073709551616 ∧ m ((2 + S.log + p : Nat) : Int) = (T.homeF p (now p)).sector
  over : ∀ p, p < S.pages → ∀ x, S.over (p : Int) = some x → now p = x
/-- A record that is being written does no harm; nor does what is written to homes of pages that lie in the log. -/
theorem Lay.touch {z : Bool} {m m' : Int → Sec} {S : LogS} {now : Nat → Page} (h : Lay z m S now)
    (hm : ∀ j : Nat, j < 2 + S.log + S.pages → m' (j : Int) = m (j : Int) ∨ (∃ p, j = 2 + p ∧ S.used ≤ p ∧ p < S.log ∧ Old S.gen S.records (m' (j : Int)) ∧ ∀ f, reads (m' (j : Int)) = some f → f.gen ≤ S.gen) ∨ ∃ p x, j = 2 + S.log + p ∧ S.over (p : Int) = some x) : Lay z m' S now := by
  have h3 := h.log3
  have hu := h.used
  have low : ∀ j, j < 2 + S.used → m' (j : Int) = m (j : Int) := fun j hj => by
    rcases hm j (by omega) with e | ⟨p, e, k1, k2, _⟩ | ⟨p, x, e, _⟩
    · exact e
    · omega
    · omega
  refine ⟨h.log3, h.log4, h.pages1, h.pages2, h.used, h.records, h.sup, h.gen1, h.gen2, ?_, ?_, ?_, fun hz p hp f hf => ?_, fun hz p h1 h2 => ?_, fun p hp ho => ?_, h.over⟩
  · rw [low _ (by omega)]; exact h.head
  · rw [low _ (by omega)]; exact h.other
  · obtain ⟨rs, hr⟩ := h.recs
    exact ⟨rs, hr.congr fun p hp => low _ (by have : p < S.used := hp; omega)⟩
  · rcases hm (2 + p) (by omega) with e | ⟨q, e, k1, k2, k3, k4⟩ | ⟨q, x, e, _⟩
    · rw [e] at hf; exact h.gens hz p hp f hf
    · exact k4 f hf
    · omega
  · rcases hm (2 + p) (by omega) with e | ⟨q, e, k1, k2, k3, k4⟩ | ⟨q, x, e, _⟩
    · rw [e]; exact h.zone hz p h1 h2
    · exact k3
    · omega
  · rcases hm (2 + S.log + p) (by omega) with e | ⟨q, e, k1, k2, k3, k4⟩ | ⟨q, x, e, hx⟩
    · rw [e]; exact h.homes p hp ho
    · omega
    · have : q = p := by omega
      subst this
      rw [hx] at ho; cases ho
theorem Lay.congr {z : Bool} {m m' : Int → Sec} {S : LogS} {now : Nat → Page} (h : Lay z m S now) (hm : ∀ j : Nat, j < 2 + S.log + S.pages → m' (j : Int) = m (j : Int)) : Lay z m' S now := h.touch fun j hj => .inl (hm j hj)
/-- A record that is written whole. -/
theorem Lay.took {m m' : Int → Sec} {S : LogS} {now : Nat → Page} (h : Lay true m S now) {ws : Rec} (hr : LiesR m' S ws)
    (hm : ∀ j : Nat, j < 2 + S.log + S.pages → m' (j : Int) = m (j : Int) ∨ ∃ p, j = 2 + p ∧ S.used ≤ p ∧ p < S.used + ws.length + 2) : Lay true m' (S.took ws) (putNow now ws) := by
  have h3 := h.log3
  have hu := h.used
  have hrm := hr.room
  have low : ∀ j, j < 2 + S.used → m' (j : Int) = m (j : Int) := fun j hj => by
    rcases hm j (by omega) with e | ⟨p, e, k1, k2⟩
    · exact e
    · omega
  have hov := overs_now ws S.over now
  have hsup := overs_sup ws hr.lt S.over h.sup
  have hrc := h.records
  refine ⟨h.log3, h.log4, h.pages1, h.pages2, ?_, ?_, hsup, h.gen1, h.gen2, ?_, ?_, ?_, fun _ p hp f hf => ?_, fun _ p h1 h2 => ?_, fun p hp ho => ?_, fun p hp x hx => ?_⟩
  · show S.used + ws.length + 2 ≤ S.log; omega
  · show S.records + 1 ≤ S.used + ws.length + 2; omega
  · show m' ((S.gen % 2 : Nat) : Int) = S.headF.sector
    rw [low _ (by omega)]; exact h.head
  · show ∀ f, reads (m' (((S.gen + 1) % 2 : Nat) : Int)) = some f → f.gen < S.gen
    rw [low _ (by omega)]; exact h.other
  · obtain ⟨rs, hrs⟩ := h.recs
    have k := Lies.snoc (r := ws) (hrs.congr (m' := m') fun p hp => low _ (by have : p < S.used := hp; omega)) ⟨hr.n1, hr.n2, hr.room, hr.lt, hr.nodup, hr.a2, hr.a3, hr.a4⟩
    exact ⟨_, k⟩
  · change p < S.log at hp
    show f.gen ≤ S.gen
    have hgen := h.gen2
    have hrec : S.records < 18446744073709551616 := by have := h.log4; omega
    have lng := hr.n2
    rcases hm (2 + p) (by omega) with e | ⟨q, e, k1, k2⟩
    · rw [e] at hf; exact h.gens rfl p hp f hf
    · have : q = p := by omega
      subst this
      by_cases e0 : q = S.used
      · subst e0
        rw [hr.a2, reads_sector ⟨h.gen2, hrec, by show (ws.map (·.1)).length < _; rw [List.length_map]; omega⟩] at hf
        cases hf; exact Nat.le_refl _
      · by_cases e1 : q = S.used + 1 + ws.length
        · subst e1
          rw [show 2 + (S.used + 1 + ws.length) = 3 + S.used + ws.length by omega, hr.a4, reads_sector ⟨h.gen2, hrec, by show ws.length < _; omega⟩] at hf
          cases hf; exact Nat.le_refl _
        · have hk : q - S.used - 1 < ws.length := by omega
          have := hr.a3 (q - S.used - 1) _ (List.getElem?_eq_getElem hk)
          rw [show 2 + q = 3 + S.used + (q - S.used - 1) by omega, this, reads_sector ⟨h.gen2, hrec, by show q - S.used - 1 < _; omega⟩] at hf
          cases hf; exact Nat.le_refl _
  · change S.used + ws.length + 2 ≤ p at h1
    change p < S.log at h2
    show Old S.gen (S.records + 1) _
    rcases hm (2 + p) (by omega) with e | ⟨q, e, k1, k2⟩
    · rw [e]
      intro f hf
      rcases h.zone rfl p (by omega) h2 f hf with k | ⟨k, k2 | ⟨k2, _⟩⟩
      · exact .inl k
      · exact .inr ⟨k, .inl (by omega)⟩
      · exact .inr ⟨k, .inl (by omega)⟩
    · omega
  · change p < S.pages at hp
    change overs S.over ws (p : Int) = none at ho
    obtain ⟨k1, k2⟩ := (hov p (h.over p hp)).2 ho
    rcases hm (2 + S.log + p) (by omega) with e | ⟨q, e, _, _⟩
    · show ∃ T : LogS, _ ∧ m' ((2 + S.log + p : Nat) : Int) = _
      rw [e, k2]; exact h.homes p hp k1
    · omega
  · exact (hov p (h.over p hp)).1 x hx
/-- The next head, when every home is written. -/
theorem Lay.raised {z : Bool} {m m' : Int → Sec} {S : LogS} {now : Nat → Page} (h : Lay z m S now) (hg : S.gen + 1 < 18446744073709551616)
    (hh : ∀ p, p < S.pages → ∃ T : LogS, T.gen < 18446744073709551616 ∧ m ((2 + S.log + p : Nat) : Int) = (T.homeF p (now p)).sector)
    (hn : m' (((S.gen + 1) % 2 : Nat) : Int) = (⟨1, S.gen + 1, 0, 0, numsPage [S.log, S.pages]⟩ : FrameV).sector)
    (hm : ∀ j : Nat, j < 2 + S.log + S.pages → j ≠ (S.gen + 1) % 2 → m' (j : Int) = m (j : Int)) : Lay z m' { S.cleared with gen := S.gen + 1 } now := by
  have h3 := h.log3
  refine ⟨h.log3, h.log4, h.pages1, h.pages2, Nat.zero_le _, Nat.zero_le _, fun i x hx => (by cases hx), (by show 1 ≤ S.gen + 1; omega), hg, hn, ?_, ⟨[], rfl⟩, fun hz p hp f hf => ?_, fun hz p _ h2 => ?_, fun p hp _ => ?_, fun p _ x hx => (by cases hx)⟩
  · show ∀ f, reads (m' (((S.gen + 1 + 1) % 2 : Nat) : Int)) = some f → f.gen < S.gen + 1
    have e : (S.gen + 1 + 1) % 2 = S.gen % 2 := by omega
    rw [e, hm _ (by omega) (by omega), h.head, reads_sector ⟨h.gen2, by show (0 : Nat) < _; omega, by show (0 : Nat) < _; omega⟩]
    intro f hf
    cases hf
    show S.gen < S.gen + 1
    omega
  · change p < S.log at hp
    rw [hm _ (by omega) (by omega)] at hf
    have := h.gens hz p hp f hf
    show f.gen ≤ S.gen + 1
    omega
  · change p < S.log at h2
    rw [hm _ (by omega) (by omega)]
    intro f hf
    have := h.gens hz p h2 f hf
    exact .inl (show f.gen < S.gen + 1 by omega)
  · change p < S.pages at hp
    show ∃ T : LogS, _ ∧ m' ((2 + S.log + p : Nat) : Int) = _
    rw [hm _ (by omega) (by omega)]; exact hh p hp
end LogS
end Go.Cib
/-
  A log that is sound, plain: what Checkpoint, Commit and Open make of it, and what is left of it wherever the power goes; no Go in it.
-/
namespace Go.Cib
open Go Go.RowKit
namespace DiskS
theorem layA_val (s : Sec) (j : Int) : ∀ (xs : List DAct) (f : Int → Sec), (∀ t, DAct.write j t ∈ xs → t = s) → (f j = s ∨ DAct.write j s ∈ xs) → layA f xs j = s
  | [], f, _, h => by
    rcases h with h | h
    · exact h
    · cases h
  | .write i t :: xs, f, h, h2 => by
    refine layA_val s j xs _ (fun t ht => h t (List.mem_cons_of_mem _ ht)) ?_
    show (if j = i then t else f j) = s ∨ _
    by_cases e : j = i
    · subst e
      rw [if_pos rfl]
      exact .inl (h t (by simp))
    · rw [if_neg e]
      rcases h2 with h2 | h2
      · exact .inl h2
      · rcases List.mem_cons.1 h2 with h3 | h3
        · cases h3; exact absurd rfl e
        · exact .inr h3
  | .flush :: xs, f, h, h2 => by
    refine layA_val s j xs f (fun t ht => h t (List.mem_cons_of_mem _ ht)) ?_
    rcases h2 with h2 | h2
    · exact .inl h2
    · rcases List.mem_cons.1 h2 with h3 | h3
      · cases h3
      · exact .inr h3
theorem layA_not (j : Int) (xs : List DAct) (f : Int → Sec) (h : ∀ t, DAct.write j t ∉ xs) : layA f xs j = f j :=
  layA_val (f j) j xs f (fun t ht => absurd ht (h t)) (.inl rfl)
/-- Some writes and a flush. -/
theorem seg {D : DiskS} {n : Nat} (hd : D.dead = false) (ok : D.Ok) (hl : D.lasts.length = n) (hs : D.waits = fun _ => none) (xs : List DAct) (hin : InA (n : Int) (xs ++ [.flush])) :
    ((D.acts (xs ++ [.flush])).1 = 0 ∧ (D.acts (xs ++ [.flush])).2.dead = false ∧ (D.acts (xs ++ [.flush])).2.Ok ∧ (D.acts (xs ++ [.flush])).2.waits = (fun _ => none) ∧ (D.acts (xs ++ [.flush])).2.lasts.length = n ∧
      (∀ j : Int, 0 ≤ j → j < (n : Int) → (D.acts (xs ++ [.flush])).2.at_ j = layA D.at_ xs j) ∧ (D.armed = 0 → (D.acts (xs ++ [.flush])).2.armed = 0)) ∨
    ((D.acts (xs ++ [.flush])).1 = 6 ∧ (D.acts (xs ++ [.flush])).2.dead = true ∧ (D.acts (xs ++ [.flush])).2.Ok ∧ (D.acts (xs ++ [.flush])).2.lasts.length = n ∧ D.armed ≠ 0 ∧ Mix n D.at_ (fun x => x ∈ xs ++ [.flush]) (D.acts (xs ++ [.flush])).2) := by
  have hm : Mix n D.at_ (fun x => x ∈ xs ++ [.flush]) D := by have := Mix.of_still hs (fun x => x ∈ xs ++ [.flush]); rw [hl] at this; exact this
  have hl2 : (D.acts (xs ++ [.flush])).2.lasts.length = n := (length_acts _ _).trans hl
  rcases acts_go (xs ++ [.flush]) hd ok hl hin (fun x hx => hx) hm with ⟨k1, k2, k3, k4, k5, k6⟩ | ⟨k1, k2, k3, k4, k5⟩
  · refine .inl ⟨k1, k2, k3, acts_flush D xs k1, hl2, fun j h0 h1 => ?_, k6⟩
    rw [k5 j h0 h1, layA_append]; rfl
  · exact .inr ⟨k1, k2, k3, hl2, k4, k5⟩
end DiskS
namespace LogS
theorem Lay.on {z : Bool} {m : Int → Sec} {S : LogS} {now : Nat → Page} (h : Lay z m S now) (D : DiskS) : Lay z m (S.on D) now :=
  ⟨h.log3, h.log4, h.pages1, h.pages2, h.used, h.records, h.sup, h.gen1, h.gen2, h.head, h.other, by obtain ⟨rs, hr⟩ := h.recs; exact ⟨rs, hr.on D⟩, h.gens, h.zone, h.homes, h.over⟩
def live (S : LogS) (b : Bool) : LogS := { S with dead := b }
theorem Lay.live {z : Bool} {m : Int → Sec} {S : LogS} {now : Nat → Page} (h : Lay z m S now) (b : Bool) : Lay z m (S.live b) now :=
  ⟨h.log3, h.log4, h.pages1, h.pages2, h.used, h.records, h.sup, h.gen1, h.gen2, h.head, h.other, h.recs, h.gens, h.zone, h.homes, h.over⟩
theorem Lay.weak {z : Bool} {m : Int → Sec} {S : LogS} {now : Nat → Page} (h : Lay true m S now) : Lay z m S now :=
  ⟨h.log3, h.log4, h.pages1, h.pages2, h.used, h.records, h.sup, h.gen1, h.gen2, h.head, h.other, h.recs, fun _ => h.gens rfl, fun _ => h.zone rfl, h.homes, h.over⟩
/-- A log that is sound on its disk. -/
structure Sound (z : Bool) (S : LogS) (now : Nat → Page) : Prop where
  lay : Lay z S.disk.at_ S now
  dok : S.disk.Ok
  still : S.disk.waits = fun _ => none
  alive : S.disk.dead = false
  live : S.dead = false
  size : 2 + S.log + S.pages = S.disk.lasts.length
theorem Sound.ok {z : Bool} {S : LogS} {now : Nat → Page} (h : Sound z S now) : S.Ok := ⟨h.lay.log3, h.lay.log4, h.lay.pages1, h.lay.pages2, h.size, h.lay.used, h.lay.records, h.lay.gen2, h.lay.sup⟩
/-- On a disk there lies a sound log. -/
def Found (z : Bool) (k h g : Nat) (D : DiskS) (now : Nat → Page) : Prop := ∃ S : LogS, S.disk = D ∧ Sound z S now ∧ S.log = k ∧ S.pages = h ∧ S.gen ≤ g
/-- What is left when the power went. -/
structure Left (z : Bool) (k h g : Nat) (E : DiskS) (P : (Nat → Page) → Prop) : Prop where
  dead : E.dead = true
  ok : E.Ok
  len : E.lasts.length = 2 + k + h
  back : ∀ keep, ∃ now, P now ∧ Found z k h g (E.on keep).2 now
theorem Found.armed {z : Bool} {k h g : Nat} {D : DiskS} {now : Nat → Page} (f : Found z k h g D now) {a : Int} (h0 : 0 ≤ a) (h1 : a ≤ 9223372036854775807) : Found z k h g { D with armed := a } now := by
  obtain ⟨S, rfl, hs, h2, h3, h4⟩ := f
  refine ⟨S.on { S.disk with armed := a }, rfl, ⟨?_, ⟨hs.dok.some, hs.dok.size, hs.dok.sup, h0, h1⟩, hs.still, hs.alive, hs.live, hs.size⟩, h2, h3, h4⟩
  exact hs.lay.on _
theorem Left.of {z : Bool} {n k h g : Nat} {E : DiskS} {f : Int → Sec} {W : DAct → Prop} {P : (Nat → Page) → Prop} (hm : DiskS.Mix n f W E) (hd : E.dead = true) (ok : E.Ok) (hl : E.lasts.length = n) (hn : n = 2 + k + h)
    (hp : ∀ m' : Int → Sec, (∀ j : Nat, j < n → m' (j : Int) = f (j : Int) ∨ W (.write (j : Int) (m' (j : Int)))) → ∃ (S : LogS) (now : Nat → Page), P now ∧ Lay z m' S now ∧ S.log = k ∧ S.pages = h ∧ S.gen ≤ g) : Left z k h g E P := by
  refine ⟨hd, ok, hl.trans hn, fun keep => ?_⟩
  obtain ⟨k1, k2, k3, k4, k5, _, k6⟩ := hm.on hl ok hd keep
  obtain ⟨S, now, p1, p2, p3, p4, p5⟩ := hp (E.on keep).2.at_ (fun j hj => k6 (j : Int) (by omega) (by omega))
  refine ⟨now, p1, (S.on (E.on keep).2).live false, rfl, ⟨(p2.on _).live _, k3, k5, k2, rfl, ?_⟩, p3, p4, p5⟩
  show 2 + S.log + S.pages = (E.on keep).2.lasts.length
  rw [p3, p4, k4, hn]
theorem Left.imp {z : Bool} {k h g g' : Nat} {E : DiskS} {P Q : (Nat → Page) → Prop} (l : Left z k h g E P) (hpq : ∀ now, P now → Q now) (hg : g ≤ g') : Left z k h g' E Q :=
  ⟨l.dead, l.ok, l.len, fun keep => by
    obtain ⟨now, p, S, a, b, c, d, e⟩ := l.back keep
    exact ⟨now, hpq now p, S, a, b, c, d, Nat.le_trans e hg⟩⟩
theorem mem_kept {S : LogS} {q : Nat × Page} : q ∈ S.kept ↔ q.1 < S.pages ∧ S.over (q.1 : Int) = some q.2 := by
  unfold kept
  rw [List.mem_filterMap]
  constructor
  · rintro ⟨p, hp, e⟩
    cases ho : S.over (p : Int) with
    | none => rw [ho] at e; cases e
    | some x => rw [ho] at e; cases e; exact ⟨List.mem_range.1 hp, ho⟩
  · rintro ⟨h1, h2⟩
    exact ⟨q.1, List.mem_range.2 h1, by rw [h2]; rfl⟩
def homeWs (S : LogS) : List DAct := S.kept.map fun q => S.homeA q.1 q.2
theorem mem_homeWs {S : LogS} {j : Int} {s : Sec} : DAct.write j s ∈ S.homeWs ↔ ∃ p x, p < S.pages ∧ S.over (p : Int) = some x ∧ j = ((2 + S.log + p : Nat) : Int) ∧ s = (S.homeF p x).sector := by
  unfold homeWs
  rw [List.mem_map]
  constructor
  · rintro ⟨q, hq, e⟩
    obtain ⟨k1, k2⟩ := mem_kept.1 hq
    unfold homeA at e
    cases e
    exact ⟨q.1, q.2, k1, k2, rfl, rfl⟩
  · rintro ⟨p, x, h1, h2, rfl, rfl⟩
    exact ⟨(p, x), mem_kept.2 ⟨h1, h2⟩, rfl⟩
theorem write_flush {j : Int} {s : Sec} {xs : List DAct} (h : DAct.write j s ∈ xs ++ [.flush]) : DAct.write j s ∈ xs := by
  rcases List.mem_append.1 h with h | h
  · exact h
  · simp at h
/-- Every home is written. -/
theorem homes_laid {z : Bool} {m : Int → Sec} {S : LogS} {now : Nat → Page} (h : Lay z m S now) {p : Nat} (hp : p < S.pages) : ∃ T : LogS, T.gen < 18446744073709551616 ∧ DiskS.layA m S.homeWs ((2 + S.log + p : Nat) : Int) = (T.homeF p (now p)).sector := by
  cases ho : S.over (p : Int) with
  | none =>
    obtain ⟨T, t1, t2⟩ := h.homes p hp ho
    refine ⟨T, t1, ?_⟩
    rw [DiskS.layA_not, t2]
    intro t ht
    obtain ⟨q, x, _, k2, k3, _⟩ := mem_homeWs.1 ht
    have : q = p := by omega
    subst this
    rw [ho] at k2; cases k2
  | some x =>
    refine ⟨S, h.gen2, ?_⟩
    rw [h.over p hp x ho]
    refine DiskS.layA_val _ _ _ _ (fun t ht => ?_) (.inr (mem_homeWs.2 ⟨p, x, hp, ho, rfl, rfl⟩))
    obtain ⟨q, y, _, k2, k3, k4⟩ := mem_homeWs.1 ht
    have : q = p := by omega
    subst this
    rw [ho] at k2; cases k2; exact k4
theorem nextF_eq (S : LogS) (hg : S.gen + 1 < 18446744073709551616) : S.next.headF = ⟨1, S.gen + 1, 0, 0, numsPage [S.log, S.pages]⟩ := by
  show (⟨1, (S.gen + 1) % 18446744073709551616, 0, 0, numsPage [S.log, S.pages]⟩ : FrameV) = _
  rw [Nat.mod_eq_of_lt hg]
theorem next_gen (S : LogS) (hg : S.gen + 1 < 18446744073709551616) : S.next.gen = S.gen + 1 := Nat.mod_eq_of_lt hg
def headW (S : LogS) : DAct := .write (((S.gen + 1) % 2 : Nat) : Int) (⟨1, S.gen + 1, 0, 0, numsPage [S.log, S.pages]⟩ : FrameV).sector
theorem nextAs (S : LogS) (hg : S.gen + 1 < 18446744073709551616) : S.next.headAs = [S.headW] ++ [.flush] := by
  unfold headAs headW
  rw [nextF_eq S hg, next_gen S hg]
  rfl
/-- Checkpoint. -/
theorem Sound.checkpoint {z : Bool} {S : LogS} {now : Nat → Page} (h : Sound z S now) (hg : S.gen + 1 < 18446744073709551616) :
    (S.checkpoint.1 = 0 ∧ Sound z S.checkpoint.2 now ∧ S.checkpoint.2.log = S.log ∧ S.checkpoint.2.pages = S.pages ∧ S.checkpoint.2.gen ≤ S.gen + 1 ∧ S.checkpoint.2.used = 0 ∧ (S.disk.armed = 0 → S.checkpoint.2.disk.armed = 0) ∧ (S.used ≠ 0 → S.checkpoint.2.over = fun _ => none)) ∨
    (S.checkpoint.1 = 6 ∧ S.checkpoint.2.dead = true ∧ S.checkpoint.2.log = S.log ∧ S.checkpoint.2.pages = S.pages ∧ S.disk.armed ≠ 0 ∧ Left z S.log S.pages (S.gen + 1) S.checkpoint.2.disk (· = now)) := by
  have hl := h.lay
  have h3 := hl.log3
  by_cases hu : S.used = 0
  · have e : S.checkpoint = (0, S) := by
      unfold LogS.checkpoint; rw [if_neg (by simp [h.live]), if_pos hu]
    rw [e]
    exact .inl ⟨rfl, h, rfl, rfl, Nat.le_succ _, hu, fun h => h, fun h2 => absurd hu h2⟩
  have inH : DiskS.InA ((2 + S.log + S.pages : Nat) : Int) (S.homeWs ++ [.flush]) := by
    intro i s hi
    obtain ⟨p, x, k1, _, k3, _⟩ := mem_homeWs.1 (write_flush hi)
    omega
  have eH : S.homeAs = S.homeWs ++ [.flush] := rfl
  rcases DiskS.seg h.alive h.dok h.size.symm h.still S.homeWs inH with ⟨a1, a2, a3, a4, a5, a6, a7⟩ | ⟨a1, a2, a3, a4, a5, a6⟩
  · generalize hA : S.disk.acts (S.homeWs ++ [.flush]) = A at a1 a2 a3 a4 a5 a6 a7
    obtain ⟨A1, D1⟩ := A
    simp only at a1 a2 a3 a4 a5 a6 a7
    subst a1
    have inR : DiskS.InA ((2 + S.log + S.pages : Nat) : Int) ([S.headW] ++ [.flush]) := by
      intro i s hi
      have := write_flush hi
      simp only [List.mem_singleton] at this
      unfold headW at this
      cases this
      omega
    have lay1 : Lay z D1.at_ (S.on D1) now := by
      refine (hl.touch fun j hj => ?_).on D1
      rw [a6 (j : Int) (by omega) (by omega)]
      by_cases hj2 : ∃ p x, j = 2 + S.log + p ∧ S.over (p : Int) = some x
      · exact .inr (.inr hj2)
      · refine .inl (DiskS.layA_not _ _ _ fun t ht => hj2 ?_)
        obtain ⟨p, x, k1, k2, k3, _⟩ := mem_homeWs.1 ht
        exact ⟨p, x, by omega, k2⟩
    have homes1 : ∀ p, p < S.pages → ∃ T : LogS, T.gen < 18446744073709551616 ∧ D1.at_ ((2 + S.log + p : Nat) : Int) = (T.homeF p (now p)).sector := by
      intro p hp
      rw [a6 _ (by omega) (by omega)]
      exact homes_laid hl hp
    have eR : ({ S with disk := D1 } : LogS).raise = ((D1.acts ([S.headW] ++ [.flush])).1, { S.next with disk := (D1.acts ([S.headW] ++ [.flush])).2 }) := by
      unfold raise
      have : ({ S with disk := D1 } : LogS).next.headAs = S.next.headAs := rfl
      rw [this, nextAs S hg]
      rfl
    have eC : S.checkpoint = (if (D1.acts ([S.headW] ++ [.flush])).1 ≠ 0 then ((D1.acts ([S.headW] ++ [.flush])).1, ({ S.next with disk := (D1.acts ([S.headW] ++ [.flush])).2 } : LogS).told ((D1.acts ([S.headW] ++ [.flush])).1, (D1.acts ([S.headW] ++ [.flush])).2)) else (0, ({ S.next with disk := (D1.acts ([S.headW] ++ [.flush])).2 } : LogS).cleared)) := by
      unfold LogS.checkpoint
      rw [if_neg (by simp [h.live]), if_neg hu, eH, hA, if_neg (by simp)]
      simp only
      rw [eR]
    have hW : ∀ (m' : Int → Sec), m' (((S.gen + 1) % 2 : Nat) : Int) = (⟨1, S.gen + 1, 0, 0, numsPage [S.log, S.pages]⟩ : FrameV).sector → (∀ j : Nat, j < 2 + S.log + S.pages → j ≠ (S.gen + 1) % 2 → m' (j : Int) = D1.at_ (j : Int)) → Lay z m' { (S.on D1).cleared with gen := S.gen + 1 } now :=
      fun m' k1 k2 => Lay.raised (S := S.on D1) lay1 hg homes1 k1 k2
    rcases DiskS.seg a2 a3 a5 a4 [S.headW] inR with ⟨b1, b2, b3, b4, b5, b6, b7⟩ | ⟨b1, b2, b3, b4, b5, b6⟩
    · rw [eC, if_neg (by rw [b1]; simp)]
      generalize hB : D1.acts ([S.headW] ++ [.flush]) = B at b1 b2 b3 b4 b5 b6 b7
      obtain ⟨B1, D2⟩ := B
      simp only at b1 b2 b3 b4 b5 b6 b7
      have l2 : Lay z D2.at_ { (S.on D1).cleared with gen := S.gen + 1 } now := by
        refine hW D2.at_ ?_ fun j hj hne => ?_
        · rw [b6 _ (by omega) (by omega)]
          show (if (((S.gen + 1) % 2 : Nat) : Int) = (((S.gen + 1) % 2 : Nat) : Int) then _ else _) = _
          rw [if_pos rfl]
        · rw [b6 _ (by omega) (by omega)]
          show (if (j : Int) = (((S.gen + 1) % 2 : Nat) : Int) then _ else _) = _
          rw [if_neg (by omega)]
      have eL : ({ S.next with disk := D2 } : LogS).cleared = ({ (S.on D1).cleared with gen := S.gen + 1 } : LogS).on D2 := by
        have e : S.next = { S with gen := S.gen + 1 } := by unfold LogS.next; rw [Nat.mod_eq_of_lt hg]
        rw [e]; rfl
      have s2 : Sound z ({ S.next with disk := D2 } : LogS).cleared now := ⟨by rw [eL]; exact l2.on D2, b3, b4, b2, h.live, b5.symm⟩
      exact .inl ⟨rfl, s2, rfl, rfl, by show S.next.gen ≤ _; rw [next_gen S hg]; exact Nat.le_refl _, rfl, fun h => b7 (a7 h), fun _ => rfl⟩
    · rw [eC, if_pos (by rw [b1]; decide)]
      have b5' : S.disk.armed ≠ 0 := fun h => b5 (a7 h)
      refine .inr ⟨b1, ?_, rfl, rfl, b5', ?_⟩
      · show (S.dead || ((D1.acts ([S.headW] ++ [.flush])).1 == 6)) = true
        rw [b1]; simp
      · show Left z S.log S.pages (S.gen + 1) (D1.acts ([S.headW] ++ [.flush])).2 _
        refine Left.of b6 b2 b3 b4 rfl fun m' hm' => ?_
        by_cases hn : m' (((S.gen + 1) % 2 : Nat) : Int) = (⟨1, S.gen + 1, 0, 0, numsPage [S.log, S.pages]⟩ : FrameV).sector
        · refine ⟨_, now, rfl, hW m' hn fun j hj hne => ?_, rfl, rfl, Nat.le_refl _⟩
          rcases hm' j hj with k | k
          · exact k
          · have := write_flush k
            simp only [List.mem_singleton] at this
            unfold headW at this
            injection this with i1 i2
            omega
        · refine ⟨S.on D1, now, rfl, lay1.congr fun j hj => ?_, rfl, rfl, Nat.le_succ _⟩
          rcases hm' j hj with k | k
          · exact k
          · have := write_flush k
            simp only [List.mem_singleton] at this
            unfold headW at this
            injection this with i1 i2
            have : j = (S.gen + 1) % 2 := by omega
            subst this
            exact absurd i2 hn
  · have eC : S.checkpoint = ((S.disk.acts (S.homeWs ++ [.flush])).1, S.told (S.disk.acts (S.homeWs ++ [.flush]))) := by
      unfold LogS.checkpoint
      rw [if_neg (by simp [h.live]), if_neg hu, eH, if_pos (by rw [a1]; decide)]
    rw [eC]
    refine .inr ⟨a1, ?_, rfl, rfl, a5, ?_⟩
    · show (S.dead || ((S.disk.acts (S.homeWs ++ [.flush])).1 == 6)) = true
      rw [a1]; simp
    · show Left z S.log S.pages (S.gen + 1) (S.disk.acts (S.homeWs ++ [.flush])).2 _
      refine Left.of a6 a2 a3 a4 rfl fun m' hm' => ⟨S, now, rfl, hl.touch fun j hj => ?_, rfl, rfl, Nat.le_succ _⟩
      rcases hm' j hj with k | k
      · exact .inl k
      · obtain ⟨p, x, k1, k2, k3, _⟩ := mem_homeWs.1 (write_flush k)
        exact .inr (.inr ⟨p, x, by omega, k2⟩)
end LogS
end Go.Cib
/-
  A log that is sound, plain: Commit, Open and Read; no Go in it.
-/
namespace Go.Cib
open Go Go.RowKit
namespace LogS
theorem mem_puts {S : LogS} {j : Int} {s : Sec} : ∀ {fs : List FrameV} {pl : Nat}, DAct.write j s ∈ S.putsA pl fs → ∃ i f, fs[i]? = some f ∧ j = ((pl + i : Nat) : Int) ∧ s = (S.rec_ f).sector
  | [], pl, h => by simp [putsA] at h
  | x :: fs, pl, h => by
    rw [putsA] at h
    rcases List.mem_cons.1 h with h | h
    · cases h; exact ⟨0, x, rfl, rfl, rfl⟩
    · obtain ⟨i, f, k1, k2, k3⟩ := mem_puts h
      exact ⟨i + 1, f, by rw [List.getElem?_cons_succ]; exact k1, by omega, k3⟩
theorem length_frames (ws : Rec) : (recFrames ws).length = ws.length + 1 := by unfold recFrames imgFrames; simp
theorem frames_zero (ws : Rec) : (recFrames ws)[0]? = some (frame2 (ws.map (·.1))) := rfl
theorem frames_succ {ws : Rec} {k : Nat} {q : Nat × Page} (h : ws[k]? = some q) : (recFrames ws)[k + 1]? = some (frame3 k q.2) := by
  unfold recFrames imgFrames
  rw [List.getElem?_cons_succ, List.getElem?_map, List.getElem?_zipIdx, h]
  simp
theorem frames_cases {ws : Rec} {i : Nat} {f : FrameV} (h : (recFrames ws)[i]? = some f) : i < ws.length + 1 ∧ f.kind ≠ 4 ∧ (f = frame2 (ws.map (·.1)) ∨ ∃ k x, k < ws.length ∧ f = frame3 k x) := by
  have hi : i < ws.length + 1 := by rw [← length_frames ws]; exact (List.getElem?_eq_some_iff.1 h).1
  refine ⟨hi, ?_⟩
  cases i with
  | zero => rw [frames_zero] at h; cases h; exact ⟨show (2 : UInt8) ≠ 4 by decide, .inl rfl⟩
  | succ k =>
    have hk : k < ws.length := by omega
    rw [frames_succ (List.getElem?_eq_getElem hk)] at h
    cases h
    exact ⟨show (3 : UInt8) ≠ 4 by decide, .inr ⟨k, _, hk, rfl⟩⟩
/-- What may be written as one record. -/
structure Fit (S : LogS) (ws : Rec) : Prop where
  n1 : 1 ≤ ws.length
  n2 : ws.length ≤ 120
  room : S.used + ws.length + 2 ≤ S.log
  lt : ∀ q ∈ ws, q.1 < S.pages
  nodup : (ws.map (·.1)).Nodup
theorem Sound.write {S : LogS} {now : Nat → Page} (h : Sound true S now) {ws : Rec} (hf : Fit S ws) :
    ((S.write ws).1 = 0 ∧ Sound true (S.write ws).2 (putNow now ws) ∧ (S.write ws).2.log = S.log ∧ (S.write ws).2.pages = S.pages ∧ (S.write ws).2.gen = S.gen ∧ (S.disk.armed = 0 → (S.write ws).2.disk.armed = 0)) ∨
    ((S.write ws).1 = 6 ∧ (S.write ws).2.dead = true ∧ (S.write ws).2.log = S.log ∧ (S.write ws).2.pages = S.pages ∧ S.disk.armed ≠ 0 ∧ Left true S.log S.pages S.gen (S.write ws).2.disk (fun n => n = now ∨ n = putNow now ws)) := by
  have hl := h.lay
  have h3 := hl.log3
  have hn1 := hf.n1; have hn2 := hf.n2; have hrm := hf.room; have hrc := hl.records; have h4 := hl.log4
  have hrec : S.records < 18446744073709551616 := by omega
  have inA1 : DiskS.InA ((2 + S.log + S.pages : Nat) : Int) (S.putsA (2 + S.used) (recFrames ws) ++ [.flush]) := by
    intro i s hi
    exact inA_puts S _ (recFrames ws) (2 + S.used) (by rw [length_frames]; omega) i s (write_flush hi)
  have inB1 : DiskS.InA ((2 + S.log + S.pages : Nat) : Int) (S.putsA (3 + S.used + ws.length) [frame4 ws.length] ++ [.flush]) := by
    intro i s hi
    exact inA_puts S _ [frame4 ws.length] (3 + S.used + ws.length) (by rw [List.length_singleton]; omega) i s (write_flush hi)
  have eW : S.writeAs ws = (S.putsA (2 + S.used) (recFrames ws) ++ [.flush]) ++ (S.putsA (3 + S.used + ws.length) [frame4 ws.length] ++ [.flush]) := by
    unfold writeAs; rw [List.append_assoc]; rfl
  have okf : ∀ (i : Nat) (f : FrameV), (recFrames ws)[i]? = some f → (S.rec_ f).Ok := by
    intro i f hi
    obtain ⟨_, _, k3 | ⟨k, x, k3, k4⟩⟩ := frames_cases hi
    · subst k3; exact ⟨hl.gen2, hrec, by show (ws.map (·.1)).length < _; rw [List.length_map]; omega⟩
    · subst k4; exact ⟨hl.gen2, hrec, by show k < _; omega⟩
  -- what a frame of the first part says is nothing new
  have oldf : ∀ (i : Nat) (f : FrameV), (recFrames ws)[i]? = some f → Old S.gen S.records (S.rec_ f).sector ∧ ∀ f', reads (S.rec_ f).sector = some f' → f'.gen ≤ S.gen := by
    intro i f hi
    have e := reads_sector (okf i f hi)
    have hk := (frames_cases hi).2.1
    constructor
    · intro f' hf'; rw [e] at hf'; cases hf'; exact .inr ⟨rfl, .inr ⟨rfl, hk⟩⟩
    · intro f' hf'; rw [e] at hf'; cases hf'; exact Nat.le_refl _
  have touch1 : ∀ m' : Int → Sec, (∀ j : Nat, j < 2 + S.log + S.pages → m' (j : Int) = S.disk.at_ (j : Int) ∨ DAct.write (j : Int) (m' (j : Int)) ∈ S.putsA (2 + S.used) (recFrames ws)) → Lay true m' S now := by
    intro m' hm'
    refine hl.touch fun j hj => ?_
    rcases hm' j hj with k | k
    · exact .inl k
    · obtain ⟨i, f, k1, k2, k3⟩ := mem_puts k
      have := (frames_cases k1).1
      rw [k3]
      exact .inr (.inl ⟨S.used + i, by omega, by omega, by omega, oldf i f k1⟩)
  rcases DiskS.seg h.alive h.dok h.size.symm h.still (S.putsA (2 + S.used) (recFrames ws)) inA1 with ⟨a1, a2, a3, a4, a5, a6, a7⟩ | ⟨a1, a2, a3, a4, a5, a6⟩
  · have eA : S.disk.acts (S.writeAs ws) = (S.disk.acts (S.putsA (2 + S.used) (recFrames ws) ++ [.flush])).2.acts (S.putsA (3 + S.used + ws.length) [frame4 ws.length] ++ [.flush]) := by
      rw [eW, DiskS.acts_append, if_pos a1]
    generalize (S.disk.acts (S.putsA (2 + S.used) (recFrames ws) ++ [.flush])).2 = D1 at a2 a3 a4 a5 a6 a7 eA
    have at1 : ∀ j : Nat, j < 2 + S.log + S.pages → D1.at_ (j : Int) = DiskS.layA S.disk.at_ (S.putsA (2 + S.used) (recFrames ws)) (j : Int) := fun j hj => a6 _ (by omega) (by omega)
    have at2 : ∀ j : Nat, j < 2 + S.log + S.pages → D1.at_ (j : Int) = match (recFrames ws)[((j : Int) - ((2 + S.used : Nat) : Int)).toNat]? with | some x => if ((2 + S.used : Nat) : Int) ≤ (j : Int) then (S.rec_ x).sector else S.disk.at_ (j : Int) | none => S.disk.at_ (j : Int) := fun j hj => by
      exact (at1 j hj).trans (layA_puts S (recFrames ws) (2 + S.used) S.disk.at_ (j : Int))
    have at3 : ∀ (i : Nat) (f : FrameV), (recFrames ws)[i]? = some f → D1.at_ ((2 + S.used + i : Nat) : Int) = (S.rec_ f).sector := fun i f hi => by
      have := (frames_cases hi).1
      rw [at2 _ (by omega), show (((2 + S.used + i : Nat) : Int) - ((2 + S.used : Nat) : Int)).toNat = i by omega, hi]
      simp only
      rw [if_pos (by omega)]
    have at4 : ∀ j : Nat, j < 2 + S.log + S.pages → (j < 2 + S.used ∨ 2 + S.used + ws.length + 1 ≤ j) → D1.at_ (j : Int) = S.disk.at_ (j : Int) := fun j hj hh => by
      rw [at2 j hj]
      split
      · rename_i x hx
        by_cases hc : ((2 + S.used : Nat) : Int) ≤ (j : Int)
        · have := (frames_cases hx).1
          omega
        · rw [if_neg hc]
      · rfl
    have lay1 : Lay true D1.at_ S now := touch1 D1.at_ fun j hj => by
      by_cases hc : j < 2 + S.used ∨ 2 + S.used + ws.length + 1 ≤ j
      · exact .inl (at4 j hj hc)
      · refine .inr ?_
        have hi : j - (2 + S.used) < (recFrames ws).length := by rw [length_frames]; omega
        have hg := List.getElem?_eq_getElem hi
        have := at3 _ _ hg
        rw [show 2 + S.used + (j - (2 + S.used)) = j by omega] at this
        rw [this]
        have key : ∀ (fs : List FrameV) (pl i : Nat) (f : FrameV), fs[i]? = some f → DAct.write ((pl + i : Nat) : Int) (S.rec_ f).sector ∈ S.putsA pl fs := by
          intro fs
          induction fs with
          | nil => intro pl i f h; cases h
          | cons y fs ih =>
            intro pl i f h
            rw [putsA]
            cases i with
            | zero => cases h; exact List.mem_cons_self ..
            | succ i =>
              rw [show pl + (i + 1) = pl + 1 + i by omega]
              exact List.mem_cons_of_mem _ (ih (pl + 1) i f h)
        have := key (recFrames ws) (2 + S.used) _ _ hg
        rw [show 2 + S.used + (j - (2 + S.used)) = j by omega] at this
        exact this
    -- the record is whole when its end lies there
    have whole : ∀ m' : Int → Sec, m' ((3 + S.used + ws.length : Nat) : Int) = (S.rec_ (frame4 ws.length)).sector → (∀ j : Nat, j < 2 + S.log + S.pages → j ≠ 3 + S.used + ws.length → m' (j : Int) = D1.at_ (j : Int)) → Lay true m' (S.took ws) (putNow now ws) := by
      intro m' k1 k2
      have r : LiesR m' S ws := by
        refine ⟨hf.n1, hf.n2, hf.room, hf.lt, hf.nodup, ?_, fun k q hk => ?_, k1⟩
        · rw [k2 _ (by omega) (by omega)]
          exact at3 0 _ (frames_zero ws)
        · have hkl := (List.getElem?_eq_some_iff.1 hk).1
          rw [k2 _ (by omega) (by omega), show 3 + S.used + k = 2 + S.used + (k + 1) by omega]
          exact at3 (k + 1) _ (frames_succ hk)
      refine Lay.took lay1 r fun j hj => ?_
      by_cases e : j = 3 + S.used + ws.length
      · exact .inr ⟨1 + S.used + ws.length, by omega, by omega, by omega⟩
      · exact .inl (k2 j hj e)
    have memB : ∀ {j : Int} {s : Sec}, DAct.write j s ∈ S.putsA (3 + S.used + ws.length) [frame4 ws.length] ++ [.flush] → j = ((3 + S.used + ws.length : Nat) : Int) ∧ s = (S.rec_ (frame4 ws.length)).sector := by
      intro j s hm
      obtain ⟨i, f, k1, k2, k3⟩ := mem_puts (write_flush hm)
      cases i with
      | zero => cases k1; exact ⟨k2, k3⟩
      | succ i => cases k1
    rcases DiskS.seg a2 a3 a5 a4 (S.putsA (3 + S.used + ws.length) [frame4 ws.length]) inB1 with ⟨b1, b2, b3, b4, b5, b6, b7⟩ | ⟨b1, b2, b3, b4, b5, b6⟩
    · have eS : S.write ws = (0, { S with disk := (S.disk.acts (S.writeAs ws)).2 }.took ws) := by
        unfold LogS.write; rw [if_neg (by rw [eA, b1]; simp)]
      rw [eA] at eS
      generalize (D1.acts (S.putsA (3 + S.used + ws.length) [frame4 ws.length] ++ [.flush])).2 = D2 at b2 b3 b4 b5 b6 b7 eS
      rw [eS]
      have l2 : Lay true D2.at_ (S.took ws) (putNow now ws) := by
        refine whole D2.at_ ?_ fun j hj hne => ?_
        · rw [b6 _ (by omega) (by omega)]
          show (if _ = _ then _ else _) = _
          rw [if_pos rfl]
        · rw [b6 _ (by omega) (by omega)]
          refine DiskS.layA_not _ _ _ fun t ht => ?_
          have := (memB (List.mem_append_left _ ht)).1
          omega
      exact .inl ⟨rfl, ⟨l2.on D2, b3, b4, b2, h.live, b5.symm⟩, rfl, rfl, rfl, fun h => b7 (a7 h)⟩
    · have eS : S.write ws = ((S.disk.acts (S.writeAs ws)).1, S.told (S.disk.acts (S.writeAs ws))) := by
        unfold LogS.write; rw [if_pos (by rw [eA, b1]; decide)]
      rw [eA] at eS
      rw [eS]
      refine .inr ⟨b1, ?_, rfl, rfl, fun h => b5 (a7 h), ?_⟩
      · show (S.dead || (_ == (6 : Int))) = true
        rw [b1]; simp
      · show Left true S.log S.pages S.gen (D1.acts _).2 _
        refine Left.of b6 b2 b3 b4 rfl fun m' hm' => ?_
        by_cases hn : m' ((3 + S.used + ws.length : Nat) : Int) = (S.rec_ (frame4 ws.length)).sector
        · refine ⟨S.took ws, putNow now ws, .inr rfl, whole m' hn fun j hj hne => ?_, rfl, rfl, Nat.le_refl _⟩
          rcases hm' j hj with k | k
          · exact k
          · have := (memB k).1; omega
        · refine ⟨S, now, .inl rfl, lay1.congr fun j hj => ?_, rfl, rfl, Nat.le_refl _⟩
          rcases hm' j hj with k | k
          · exact k
          · obtain ⟨k1, k2⟩ := memB k
            have : j = 3 + S.used + ws.length := by omega
            subst this
            exact absurd k2 hn
  · have eA : S.disk.acts (S.writeAs ws) = S.disk.acts (S.putsA (2 + S.used) (recFrames ws) ++ [.flush]) := by
      rw [eW, DiskS.acts_append, if_neg (by rw [a1]; decide)]
    have eS : S.write ws = ((S.disk.acts (S.writeAs ws)).1, S.told (S.disk.acts (S.writeAs ws))) := by
      unfold LogS.write; rw [if_pos (by rw [eA, a1]; decide)]
    rw [eA] at eS
    rw [eS]
    refine .inr ⟨a1, ?_, rfl, rfl, a5, ?_⟩
    · show (S.dead || (_ == (6 : Int))) = true
      rw [a1]; simp
    · show Left true S.log S.pages S.gen (S.disk.acts _).2 _
      refine Left.of a6 a2 a3 a4 rfl fun m' hm' => ⟨S, now, .inl rfl, touch1 m' fun j hj => ?_, rfl, rfl, Nat.le_refl _⟩
      rcases hm' j hj with k | k
      · exact .inl k
      · exact .inr (write_flush k)
end LogS
end Go.Cib
/-
  A log that is sound, plain: Commit, Open and Read as its users see them; no Go in it.
-/
namespace Go.Cib
open Go Go.RowKit
namespace LogS
theorem Sound.commit {S : LogS} {now : Nat → Page} (h : Sound true S now) (hg : S.gen + 1 < 18446744073709551616) (w : List (Int × Page)) :
    (S.may w ≠ 0 ∧ S.commit w = (S.may w, S)) ∨
    (S.may w = 0 ∧ (S.commit w).1 = 0 ∧ Sound true (S.commit w).2 (putNow now (nats w)) ∧ (S.commit w).2.log = S.log ∧ (S.commit w).2.pages = S.pages ∧ (S.commit w).2.gen ≤ S.gen + 1 ∧ (S.disk.armed = 0 → (S.commit w).2.disk.armed = 0)) ∨
    (S.may w = 0 ∧ (S.commit w).1 = 6 ∧ (S.commit w).2.dead = true ∧ (S.commit w).2.log = S.log ∧ (S.commit w).2.pages = S.pages ∧ S.disk.armed ≠ 0 ∧ Left true S.log S.pages (S.gen + 1) (S.commit w).2.disk (fun n => n = now ∨ n = putNow now (nats w))) := by
  by_cases hm : S.may w = 0
  · refine .inr ?_
    by_cases hw : w = []
    · have e : S.commit w = (0, S) := by
        unfold LogS.commit; rw [if_neg (by simp [hm]), if_pos hw]
      rw [e]
      refine .inl ⟨hm, rfl, ?_, rfl, rfl, Nat.le_succ _, fun h => h⟩
      rw [hw]; exact h
    · obtain ⟨_, k2, k3, k4, k5⟩ := nats_cast hm
      have hlen : (nats w).length = w.length := by unfold nats; simp
      have hpos : 1 ≤ w.length := by cases w with | nil => exact absurd rfl hw | cons _ _ => simp
      by_cases hc : S.log < S.used + w.length + 2
      · have e : S.commit w = if S.checkpoint.1 ≠ 0 then S.checkpoint else S.checkpoint.2.write (nats w) := by
          unfold LogS.commit; rw [if_neg (by simp [hm]), if_neg hw, if_neg (by simp [h.live]), if_pos hc]
        rcases h.checkpoint hg with ⟨a1, a2, a3, a4, a5, a6, a7, _⟩ | ⟨a1, a2, a3, a4, a5, a6⟩
        · rw [if_neg (by simp [a1])] at e
          rw [e]
          have fit : Fit S.checkpoint.2 (nats w) := ⟨by omega, by omega, by omega, by rw [a4]; exact k2, k5⟩
          rcases a2.write fit with ⟨b1, b2, b3, b4, b5, b6⟩ | ⟨b1, b2, b3, b4, b5, b6⟩
          · exact .inl ⟨hm, b1, b2, b3.trans a3, b4.trans a4, by omega, fun h => b6 (a7 h)⟩
          · refine .inr ⟨hm, b1, b2, b3.trans a3, b4.trans a4, fun h => b5 (a7 h), ?_⟩
            rw [← a3, ← a4]
            exact b6.imp (fun _ h => h) a5
        · rw [if_pos (by rw [a1]; decide)] at e
          rw [e]
          exact .inr ⟨hm, a1, a2, a3, a4, a5, a6.imp (fun _ h => .inl h) (Nat.le_refl _)⟩
      · have e : S.commit w = S.write (nats w) := by
          unfold LogS.commit; rw [if_neg (by simp [hm]), if_neg hw, if_neg (by simp [h.live]), if_neg hc]
        rw [e]
        rcases h.write (ws := nats w) ⟨by omega, by omega, by omega, k2, k5⟩ with ⟨b1, b2, b3, b4, b5, b6⟩ | ⟨b1, b2, b3, b4, b5, b6⟩
        · exact .inl ⟨hm, b1, b2, b3, b4, by omega, b6⟩
        · exact .inr ⟨hm, b1, b2, b3, b4, b5, b6.imp (fun _ h => h) (Nat.le_succ _)⟩
  · refine .inl ⟨hm, ?_⟩
    unfold LogS.commit; rw [if_pos hm]
/-- The head that is found. -/
theorem heads_gen {D : DiskS} {k h g : Nat} (hd : D.dead = false) (hl : 2 + k + h = D.lasts.length) (k3 : 3 ≤ k) (k4 : k ≤ 4000) (h1 : 1 ≤ h) (h2 : h ≤ 16384) (g1 : 1 ≤ g) (g2 : g < 18446744073709551616)
    (hh : D.at_ ((g % 2 : Nat) : Int) = (⟨1, g, 0, 0, numsPage [k, h]⟩ : FrameV).sector) (ho : ∀ f, reads (D.at_ (((g + 1) % 2 : Nat) : Int)) = some f → f.gen < g) :
    heads D = ⟨D, k, h, g, 0, 0, fun _ => none, false⟩ := by
  have r0 : (D.read 0).1 = D.at_ 0 := by unfold DiskS.read; rw [if_pos (DiskS.may_in hd (by decide) (by omega))]
  have r1 : (D.read 1).1 = D.at_ 1 := by unfold DiskS.read; rw [if_pos (DiskS.may_in hd (by decide) (by omega))]
  unfold heads
  rw [r0, r1]
  rcases Nat.mod_two_eq_zero_or_one g with e | e
  · have e2 : (g + 1) % 2 = 1 := by omega
    rw [e] at hh
    rw [e2] at ho
    change D.at_ 0 = _ at hh
    change ∀ f, reads (D.at_ 1) = some f → f.gen < g at ho
    rw [hh, chooses_of (S := blank D) (g := g) (log := k) (pages := h) (by show 0 < g; omega) g2 e k3 k4 h1 h2 hl]
    unfold chooses
    rw [if_neg]
    · rfl
    · rintro ⟨c1, c2⟩
      have := ho (parse (D.at_ 1)) (by unfold reads; rw [if_pos c1])
      have c3 : g < (parse (D.at_ 1)).gen := c2.2.2.2.1
      omega
  · have e2 : (g + 1) % 2 = 0 := by omega
    rw [e] at hh
    rw [e2] at ho
    change D.at_ 1 = _ at hh
    change ∀ f, reads (D.at_ 0) = some f → f.gen < g at ho
    have hk := chooses_keep (blank D) 0 (D.at_ 0)
    have hlt : ((blank D).chooses 0 (D.at_ 0)).gen < g := by
      unfold chooses
      split
      · rename_i c
        exact ho (parse (D.at_ 0)) (by unfold reads; rw [if_pos c.1])
      · show 0 < g; omega
    generalize (blank D).chooses 0 (D.at_ 0) = L at hk hlt
    obtain ⟨l1, l2, l3, l4, l5⟩ := hk
    rw [hh, chooses_of (S := L) (g := g) (log := k) (pages := h) hlt g2 e k3 k4 h1 h2 (by rw [l1]; exact hl)]
    cases L
    simp only at l1 l2 l3 l4 l5
    subst l1 l2 l3 l4 l5
    rfl
theorem Lay.stop {m : Int → Sec} {S : LogS} {now : Nat → Page} (h : Lay true m S now) (hm : ∀ p, p < S.log → S.disk.at_ ((2 + p : Nat) : Int) = m ((2 + p : Nat) : Int)) : S.record = none := by
  unfold record
  rw [if_neg]
  rintro ⟨_, _, _, _, _, _, k4, _⟩
  unfold atOk at k4
  simp only [Bool.and_eq_true, decide_eq_true_eq] at k4
  obtain ⟨⟨⟨⟨c1, c2⟩, c3⟩, c4⟩, c5⟩ := k4
  have hp0 : S.used ≤ S.used + 1 + (S.atF S.used).idx := by omega
  generalize S.used + 1 + (S.atF S.used).idx = p at c1 c2 c3 c4 c5 hp0
  by_cases hp : S.used ≤ p
  · have z := h.zone rfl p hp c1
    unfold atF at c3 c4 c5
    rw [if_pos c1] at c3 c4 c5
    rw [hm p c1] at c2 c3 c4 c5
    rcases z (parse (m ((2 + p : Nat) : Int))) (by unfold reads; rw [if_pos c2]) with z | ⟨_, z | ⟨_, z⟩⟩
    · omega
    · omega
    · exact z c3
  · exact hp hp0
/-- Open finds the log, or the power goes in it. -/
theorem Sound.opens {z : Bool} {S : LogS} {now : Nat → Page} (h : Sound z S now) (hr : S.record = none) (hg : S.gen + 1 < 18446744073709551616) :
    (LogS.opens S.disk = (0, some S.checkpoint.2, S.checkpoint.2.disk) ∧ S.checkpoint.1 = 0) ∨ (LogS.opens S.disk = (6, none, S.checkpoint.2.disk) ∧ S.checkpoint.1 = 6) := by
  have hl := h.lay
  have e0 : (S.disk.read 0).2 = 0 := by unfold DiskS.read; rw [if_pos (DiskS.may_in h.alive (by decide) (by have := h.size; omega))]
  have e1 : (S.disk.read 1).2 = 0 := by unfold DiskS.read; rw [if_pos (DiskS.may_in h.alive (by decide) (by have := h.size; omega))]
  have hh : heads S.disk = { S.cleared with dead := false } := heads_gen h.alive h.size hl.log3 hl.log4 hl.pages1 hl.pages2 hl.gen1 hl.gen2 hl.head hl.other
  have hS : { S with dead := false } = S := by cases S; have := h.live; simp only at this; subst this; rfl
  have hruns : (heads S.disk).runs (heads S.disk).log = S := by
    obtain ⟨rs, hrs⟩ := hl.recs
    rw [hS] at hrs
    rw [hh]
    have g := hrs.grow
    have ok : ({ S.cleared with dead := false } : LogS).Ok := h.ok.cleared.dead false
    refine Lies.runs ok (rs := rs) hrs hr _ ?_
    have := g.2.1
    have hu := hl.used
    show rs.length ≤ S.log
    change 0 + rs.length ≤ S.used at this
    omega
  have hg0 : ¬ (heads S.disk).gen = 0 := by
    rw [hh]; show ¬ S.gen = 0; have := hl.gen1; omega
  have eO : LogS.opens S.disk = if S.checkpoint.1 ≠ 0 then (S.checkpoint.1, none, S.checkpoint.2.disk) else (0, some S.checkpoint.2, S.checkpoint.2.disk) := by
    unfold LogS.opens
    rw [if_neg (not_not_intro e0), if_neg (not_not_intro e1), if_neg hg0, hruns]
  rcases h.checkpoint hg with ⟨a1, _⟩ | ⟨a1, _⟩
  · rw [eO, if_neg (by simp [a1])]; exact .inl ⟨rfl, a1⟩
  · rw [eO, if_pos (by rw [a1]; decide), a1]; exact .inr ⟨rfl, rfl⟩
/-- What lies on a disk is opened. -/
theorem Found.opens {k h g : Nat} {D : DiskS} {now : Nat → Page} (f : Found true k h g D now) (hg : g + 1 < 18446744073709551616) :
    (∃ T : LogS, LogS.opens D = (0, some T, T.disk) ∧ Sound true T now ∧ T.log = k ∧ T.pages = h ∧ T.gen ≤ g + 1 ∧ (D.armed = 0 → T.disk.armed = 0)) ∨
    (∃ E : DiskS, LogS.opens D = (6, none, E) ∧ D.armed ≠ 0 ∧ Left true k h (g + 1) E (· = now)) := by
  obtain ⟨S, rfl, hs, rfl, rfl, hle⟩ := f
  have hstop : S.record = none := hs.lay.stop fun p _ => rfl
  rcases hs.checkpoint (by omega) with ⟨a1, a2, a3, a4, a5, a6, a7, _⟩ | ⟨a1, a2, a3, a4, a5, a6⟩
  · rcases hs.opens hstop (by omega) with ⟨b1, _⟩ | ⟨_, b2⟩
    · exact .inl ⟨S.checkpoint.2, b1, a2, a3, a4, by omega, a7⟩
    · omega
  · rcases hs.opens hstop (by omega) with ⟨_, b2⟩ | ⟨b1, _⟩
    · omega
    · exact .inr ⟨_, b1, a5, a6.imp (fun _ h => h) (by omega)⟩
/-- What is read. -/
theorem Sound.read {z : Bool} {S : LogS} {now : Nat → Page} (h : Sound z S now) {p : Nat} (hp : p < S.pages) : S.read (p : Int) = ((now p, 0), S) := by
  have hl := h.lay
  unfold LogS.read
  rw [if_neg (by simp [h.live]), if_neg (by omega)]
  cases ho : S.over (p : Int) with
  | some x => rw [hl.over p hp x ho]
  | none =>
    obtain ⟨T, t1, t2⟩ := hl.homes p hp ho
    have hr : S.disk.read (2 + S.log + p) = (S.disk.at_ ((2 + S.log + p : Nat) : Int), 0) := by
      have hs := h.size
      have := DiskS.may_in h.alive (i := ((2 + S.log + p : Nat) : Int)) (by omega) (by omega)
      unfold DiskS.read
      rw [show (2 + (S.log : Int) + (p : Int)) = ((2 + S.log + p : Nat) : Int) by omega, if_pos this]
    simp only [hr, t2, Int.toNat_natCast]
    rw [if_neg (by simp), pageOf_home (S := T) (now p) t1 (by have := hl.pages2; omega)]
theorem Sound.read_out {z : Bool} {S : LogS} {now : Nat → Page} (h : Sound z S now) {p : Int} (hp : p < 0 ∨ (S.pages : Int) ≤ p) : S.read p = ((Arr.zero, 2), S) := by
  unfold LogS.read
  rw [if_neg (by simp [h.live]), if_pos hp]
end LogS
end Go.Cib
/-
  A fresh log: the walk of ciboriumlaw08.begun.
-/
namespace Go.Cib
open Go Go.RowKit
namespace BegunP
variable {k h : Nat}
theorem lay1 (f : Fits k h) : LogS.Lay true (D1 k h).at_ (S1 k h) (fun _ => Arr.zero) := by
  obtain ⟨f1, f2, f3, f4⟩ := id f
  refine ⟨f1, f2, f3, by show h ≤ 16384; omega, Nat.zero_le _, Nat.zero_le _, fun i x hx => (by cases hx), (by show 1 ≤ 1; decide), (by show 1 < 18446744073709551616; decide), z1 f, ?_, ⟨[], rfl⟩, ?_, ?_, ?_, fun p _ x hx => (by cases hx)⟩
  · intro g hg
    have e0 : (S1 k h).gen = 1 := rfl
    rw [e0, show (((1 + 1) % 2 : Nat) : Int) = 0 from rfl] at hg
    have e1 : (D1 k h).at_ 0 = Arr.zero := z0 f
    rw [e1, reads_zero] at hg
    cases hg
  · intro _ p hp g hg
    change p < k at hp
    rw [at1 f _ (by omega), if_neg (by omega), if_neg (by omega), reads_zero] at hg; cases hg
  · intro _ p _ hp g hg
    change p < k at hp
    rw [at1 f _ (by omega), if_neg (by omega), if_neg (by omega), reads_zero] at hg; cases hg
  · intro p hp _
    change p < h at hp
    refine ⟨L0 k h, (by show 1 < 18446744073709551616; decide), ?_⟩
    show (D1 k h).at_ ((2 + k + p : Nat) : Int) = _
    rw [at1 f _ (by omega), if_neg (by omega), if_pos (by omega), show 2 + k + p - (2 + k) = p by omega]
theorem sound1 (f : Fits k h) : LogS.Sound true (S1 k h) (fun _ => Arr.zero) := by
  obtain ⟨_, hc, hl, hw, _⟩ := fmt f
  exact ⟨lay1 f, hc.ok, hw, hc.dead, rfl, hl.symm⟩
theorem free1 (f : Fits k h) (p : Nat) (hp : p < k) : (D1 k h).at_ ((2 + p : Nat) : Int) = Arr.zero := by
  rw [at1 f _ (by omega), if_neg (by omega), if_neg (by omega)]
theorem armed1 (f : Fits k h) : (S1 k h).disk.armed = 0 := (fmt f).2.1.armed
end BegunP
end Go.Cib
namespace Go.Proofs.Ythbaipljlbddcaa
open Go.RowKit Go.Cib
open BegunP
/-- The place that tidy makes. -/
theorem tidy_place (s l : Int) : ∃ k h : Nat, tidyLog l = (k : Int) ∧ tidySec s l = ((2 + k + h : Nat) : Int) ∧ Fits k h ∧ k ≤ 22 ∧ h ≤ 20 := by
  obtain ⟨l0, l1, _, _⟩ := mod20 l
  obtain ⟨s0, s1, _, _⟩ := mod20 s
  unfold tidyLog tidySec tidyLog
  generalize (l.tmod 20 + 20).tmod 20 = a at *
  generalize (s.tmod 20 + 20).tmod 20 = b at *
  refine ⟨(3 + a).toNat, (1 + b).toNat, by omega, by omega, ⟨by omega, by omega, by omega, by omega⟩, by omega, by omega⟩
theorem begun_any (w : World) (s l : Int) {k h : Nat} (hk : tidyLog l = (k : Int)) (hs : tidySec s l = ((2 + k + h : Nat) : Int)) (f : Fits k h) : Calls Try.prog 9 #[.agg #[.int .i64 s, .int .i64 l]] w fun e w' =>
    ∃ g d L M V, e = .returned (.tuple #[.pointer (some ⟨d, 0, none⟩), .pointer (some ⟨g, 0, none⟩)]) ∧ LogAt w' g d L M V (S1 k h) ∧ (S1 k h).Ok ∧ Tch [] w w' ∧ w.heap.size ≤ d ∧ w.heap.size ≤ L ∧ w.heap.size ≤ M ∧ w.heap.size ≤ g ∧ w.heap.size ≤ V := by
  obtain ⟨f1, f2, f3, f4⟩ := id f
  go_enter Try.func9, Try.ntmps9
  have t0 : Tch [] w (w.alloc (.cells #[.int .i64 s, .int .i64 l] 23)) := (Tch.refl _ _).alloc _
  have b0 : (w.alloc (.cells #[.int .i64 s, .int .i64 l] 23)).heap[w.heap.size]? = some (.cells #[.int .i64 s, .int .i64 l] 23) := heap_alloc_new _ _
  have c0 : (w.alloc (.cells #[.int .i64 s, .int .i64 l] 23)).cell? ⟨w.heap.size, 0, none⟩ = some (.int .i64 s) := by simp
  have c1 : (w.alloc (.cells #[.int .i64 s, .int .i64 l] 23)).cell? ⟨w.heap.size, 1, none⟩ = some (.int .i64 l) := by simp
  have T0 := Lib.hid t0
  clear t0 b0
  go_upto_region 2 with fail
  generalize w.alloc (.cells #[.int .i64 s, .int .i64 l] 23) = w1 at *
  have Z0 : Hid (w.heap.size ≤ w1.heap.size) := T0.out.size
  generalize w.heap.size = B at *
  go_wp2_with fail
  refine (tidy_any _ s l).mono ?_
  rintro e w2 ⟨rfl, t2⟩
  rw [hk, hs]
  have T2 := Lib.hid (T0.out.trans t2)
  clear t2 c0 c1 T0
  go_wp2_with fail
  refine (new_any w2 (2 + k + h) (by omega) (by omega)).mono ?_
  rintro e w3 ⟨d, L, M, rfl, h3, t3, n1, n2, n3⟩
  have H3 : Hid (DiskAt w3 d L M (D0 k h)) := h3
  have T3 := Lib.hid (T2.out.trans t3)
  have N1 := Lib.hid (Nat.le_trans T2.out.size n1)
  have N2 := Lib.hid (Nat.le_trans T2.out.size n2)
  have N3 := Lib.hid (Nat.le_trans T2.out.size n3)
  clear h3 t3 n1 n2 n3 T2
  go_wp2_with fail
  refine (format_any H3.out (k : Int)).mono ?_
  rintro e w4 ⟨rfl, h4, t4⟩
  rw [(fmt f).1]
  have H4 : Hid (DiskAt w4 d L M (D1 k h)) := h4
  have T4 := Lib.hid (tch_own T3.out t4 (by have a := N1.out; have b := N2.out; have c := N3.out; simp [a, b, c]))
  clear h4 t4 H3 T3
  go_wp2_with fail
  refine (open_ok H4.out (open1 f)).mono ?_
  rintro e w5 ⟨g, V, rfl, h5, o5, t5, g5, v5⟩
  have H5 := Lib.hid h5
  have O5 := Lib.hid o5
  have T5 := Lib.hid (tch_own T4.out t5 (by have a := N1.out; have b := N2.out; have c := N3.out; simp [a, b, c]))
  have G5 := Lib.hid (Nat.le_trans T4.out.size g5)
  have V5 := Lib.hid (Nat.le_trans T4.out.size v5)
  clear h5 o5 t5 g5 v5 H4 T4
  go_wp2_with (go_at_call 26; refine (pages_any H5.out).mono ?_; rintro e w' ⟨rfl, rfl⟩; rw [show (if (S1 k h).dead = true then (0 : Int) else ((S1 k h).pages : Int)) = (h : Int) from rfl])
  go_ret2
  exact ⟨g, d, L, M, V, rfl, H5.out, O5.out, T5.out, by have := Z0.out; have := N1.out; omega, by have := Z0.out; have := N2.out; omega, by have := Z0.out; have := N3.out; omega, by have := Z0.out; have := G5.out; omega, by have := Z0.out; have := V5.out; omega⟩
end Go.Proofs.Ythbaipljlbddcaa
/-
  A sector in which some of 32 bits that follow one another are turned, plain: it is no frame any more; no Go in it.
-/
namespace Go.Cib
open Go Go.RowKit
def turnByte (x : UInt8) (j : Nat) : UInt8 := UInt8.ofNat (x.toNat ^^^ 2 ^ j)
def turnAt (s : Sec) (k : Nat) : Sec := ⟨s.l.set (k / 8) (turnByte (s.l.getD (k / 8) 0) (k % 8)), by rw [List.length_set]; exact s.h⟩
def burstTo (chk : Bool) : Nat := if chk = true then 256 else 4096
def skips (chk : Bool) (turn i k : Nat) : Prop := turn / 2 ^ i % 2 = 0 ∨ burstTo chk ≤ k ∨ decide (224 ≤ k ∧ k < 256) ≠ chk
instance (chk : Bool) (turn i k : Nat) : Decidable (skips chk turn i k) := by unfold skips; infer_instance
/-- So many rounds. -/
def burst (chk : Bool) (turn st : Nat) (s : Sec) : Nat → Sec × Bool
  | 0 => (s, false)
  | i + 1 => if skips chk turn i (st + i) then burst chk turn st s i else (turnAt (burst chk turn st s i).1 (st + i), true)
theorem toNat_turn (x : UInt8) {j : Nat} (hj : j < 8) : (turnByte x j).toNat = x.toNat ^^^ 2 ^ j := by
  unfold turnByte
  have h1 := x.toNat_lt
  have h2 : 2 ^ j < 2 ^ 8 := Nat.pow_lt_pow_right (by decide) hj
  have h3 : x.toNat ^^^ 2 ^ j < 2 ^ 8 := Nat.xor_lt_two_pow h1 h2
  rw [UInt8.toNat_ofNat']
  exact Nat.mod_eq_of_lt h3
/-- The bits in which two sectors differ, all of them. -/
def difAll (s t : List UInt8) : Nat → Nat
  | 0 => 0
  | n + 1 => difAll s t n ^^^ ((s.getD n 0).toNat ^^^ (t.getD n 0).toNat) * 2 ^ (8 * n)
theorem difAll_self (s : List UInt8) : ∀ n, difAll s s n = 0
  | 0 => rfl
  | n + 1 => by rw [difAll, difAll_self s n, Nat.xor_self]; simp
theorem difTo_self (s : List UInt8) : ∀ n, difTo s s n = 0
  | 0 => rfl
  | n + 1 => by rw [difTo, difTo_self s n, Nat.xor_self]; simp
theorem getD_turn (t : Sec) (k n : Nat) : (turnAt t k).l.getD n 0 = if n = k / 8 ∧ n < 512 then turnByte (t.l.getD (k / 8) 0) (k % 8) else t.l.getD n 0 := by
  show (t.l.set (k / 8) _).getD n 0 = _
  rw [List.getD_eq_getElem?_getD, List.getElem?_set, t.h]
  by_cases e : k / 8 = n
  · rw [if_pos e]
    by_cases h : n < 512
    · rw [if_pos (by omega), if_pos ⟨e.symm, h⟩]; rfl
    · rw [if_neg (by omega), if_neg (by omega), List.getD_eq_getElem?_getD, List.getElem?_eq_none (by rw [t.h]; omega)]
  · rw [if_neg e, if_neg (by omega), List.getD_eq_getElem?_getD]
theorem mul_xor (a b n : Nat) : (a ^^^ b) * 2 ^ n = a * 2 ^ n ^^^ b * 2 ^ n := by
  rw [← Nat.shiftLeft_eq, ← Nat.shiftLeft_eq, ← Nat.shiftLeft_eq]
  exact Nat.shiftLeft_xor_distrib
theorem byte_turn (x y : UInt8) (k n : Nat) (hn : n = k / 8) : (x.toNat ^^^ (turnByte y (k % 8)).toNat) * 2 ^ (8 * n) = (x.toNat ^^^ y.toNat) * 2 ^ (8 * n) ^^^ 2 ^ k := by
  rw [toNat_turn y (by omega), ← Nat.xor_assoc, mul_xor, ← Nat.pow_add, show k % 8 + 8 * n = k by omega]
theorem xor_comm3 (a b c : Nat) : a ^^^ b ^^^ c = a ^^^ c ^^^ b := by rw [Nat.xor_assoc, Nat.xor_comm b c, ← Nat.xor_assoc]
theorem difAll_turn (s : List UInt8) (t : Sec) (k : Nat) : ∀ n, n ≤ 512 → difAll s (turnAt t k).l n = if k / 8 < n then difAll s t.l n ^^^ 2 ^ k else difAll s t.l n
  | 0, _ => by rw [if_neg (by omega)]; rfl
  | n + 1, hn => by
    rw [difAll, difAll_turn s t k n (by omega), getD_turn, difAll]
    by_cases e : n = k / 8
    · rw [if_neg (by omega), if_pos ⟨e, by omega⟩, if_pos (by omega), byte_turn _ _ k n e, ← e, Nat.xor_assoc]
    · rw [if_neg (fun (h : n = k / 8 ∧ n < 512) => e h.1)]
      by_cases h : k / 8 < n
      · rw [if_pos h, if_pos (show k / 8 < n + 1 by omega), xor_comm3]
      · rw [if_neg h, if_neg (show ¬ k / 8 < n + 1 by omega)]
theorem difTo_turn (s : List UInt8) (t : Sec) (k : Nat) (hk : k < 224 ∨ 256 ≤ k) : ∀ n, n ≤ 512 → difTo s (turnAt t k).l n = if k / 8 < n then difTo s t.l n ^^^ 2 ^ k else difTo s t.l n
  | 0, _ => by rw [if_neg (by omega)]; rfl
  | n + 1, hn => by
    rw [difTo, difTo_turn s t k hk n (by omega), getD_turn, difTo]
    by_cases e : n = k / 8
    · rw [if_neg (by omega), if_pos (show n < 28 ∨ 32 ≤ n by omega), if_pos ⟨e, by omega⟩, if_pos (by omega), if_pos (show n < 28 ∨ 32 ≤ n by omega), byte_turn _ _ k n e, ← e, Nat.xor_assoc]
    · rw [if_neg (fun (h : n = k / 8 ∧ n < 512) => e h.1)]
      by_cases h : k / 8 < n
      · rw [if_pos h, if_pos (show k / 8 < n + 1 by omega), xor_comm3]
      · rw [if_neg h, if_neg (show ¬ k / 8 < n + 1 by omega)]
theorem grow_bit {c i st : Nat} (hc : c < 2 ^ i) : ∃ c', c * 2 ^ st ^^^ 2 ^ (st + i) = c' * 2 ^ st ∧ c' < 2 ^ (i + 1) ∧ c' ≠ 0 := by
  refine ⟨c ^^^ 2 ^ i, ?_, Nat.xor_lt_two_pow (Nat.lt_trans hc (Nat.pow_lt_pow_right (by decide) (by omega))) (Nat.pow_lt_pow_right (by decide) (by omega)), fun h => ?_⟩
  · rw [mul_xor, ← Nat.pow_add, Nat.add_comm i st]
  · have : c = 2 ^ i := by
      have h2 := congrArg (fun x => x ^^^ 2 ^ i) h
      simpa only [Nat.xor_assoc, Nat.xor_self, Nat.xor_zero, Nat.zero_xor] using h2
    omega
/-- What so many rounds do. -/
theorem burst_dif {chk : Bool} {turn st : Nat} {s : Sec} (hst : st < 4096) : ∀ n, n ≤ 32 →
    ((burst chk turn st s n).2 = false → (burst chk turn st s n).1 = s) ∧
    (chk = false → (∃ c, difTo s.l (burst chk turn st s n).1.l 512 = c * 2 ^ st ∧ c < 2 ^ n ∧ ((burst chk turn st s n).2 = true → c ≠ 0)) ∧ ∀ i, 28 ≤ i → i < 32 → (burst chk turn st s n).1.l.getD i 0 = s.l.getD i 0) ∧
    (chk = true → (∃ c, difAll s.l (burst chk turn st s n).1.l 512 = c * 2 ^ st ∧ c < 2 ^ n ∧ ((burst chk turn st s n).2 = true → c ≠ 0)) ∧ ∀ i, i < 28 ∨ 32 ≤ i → (burst chk turn st s n).1.l.getD i 0 = s.l.getD i 0)
  | 0, _ => ⟨fun _ => rfl, fun _ => ⟨⟨0, by rw [Nat.zero_mul]; exact difTo_self _ _, by decide, fun h => by cases h⟩, fun _ _ _ => rfl⟩, fun _ => ⟨⟨0, by rw [Nat.zero_mul]; exact difAll_self _ _, by decide, fun h => by cases h⟩, fun _ _ => rfl⟩⟩
  | n + 1, hn => by
    obtain ⟨h1, h2, h3⟩ := burst_dif (chk := chk) (turn := turn) (s := s) hst n (by omega)
    by_cases hs : skips chk turn n (st + n)
    · have e : burst chk turn st s (n + 1) = burst chk turn st s n := by rw [burst, if_pos hs]
      rw [e]
      have hp : 2 ^ n < 2 ^ (n + 1) := Nat.pow_lt_pow_right (by decide) (by omega)
      refine ⟨h1, fun hc => ?_, fun hc => ?_⟩
      · obtain ⟨⟨c, a, b, d⟩, g⟩ := h2 hc
        exact ⟨⟨c, a, Nat.lt_trans b hp, d⟩, g⟩
      · obtain ⟨⟨c, a, b, d⟩, g⟩ := h3 hc
        exact ⟨⟨c, a, Nat.lt_trans b hp, d⟩, g⟩
    · have e : burst chk turn st s (n + 1) = (turnAt (burst chk turn st s n).1 (st + n), true) := by rw [burst, if_neg hs]
      rw [e]
      unfold skips at hs
      have hto : ¬ burstTo chk ≤ st + n := fun h => hs (.inr (.inl h))
      have hin : decide (224 ≤ st + n ∧ st + n < 256) = chk := by
        by_cases h : decide (224 ≤ st + n ∧ st + n < 256) = chk
        · exact h
        · exact absurd (.inr (.inr h)) hs
      refine ⟨fun h => (by cases h), fun hc => ?_, fun hc => ?_⟩
      · subst hc
        have hk : ¬ (224 ≤ st + n ∧ st + n < 256) := of_decide_eq_false hin
        have hb : burstTo false = 4096 := rfl
        rw [hb] at hto
        obtain ⟨⟨c, a, b, _⟩, g⟩ := h2 rfl
        obtain ⟨c', k1, k2, k3⟩ := grow_bit (st := st) b
        refine ⟨⟨c', ?_, k2, fun _ => k3⟩, fun i i1 i2 => ?_⟩
        · rw [difTo_turn _ _ _ (by omega) 512 (Nat.le_refl _), if_pos (by omega), a, k1]
        · rw [getD_turn, if_neg (by omega)]; exact g i i1 i2
      · subst hc
        have hk : 224 ≤ st + n ∧ st + n < 256 := of_decide_eq_true hin
        obtain ⟨⟨c, a, b, _⟩, g⟩ := h3 rfl
        obtain ⟨c', k1, k2, k3⟩ := grow_bit (st := st) b
        refine ⟨⟨c', ?_, k2, fun _ => k3⟩, fun i hi => ?_⟩
        · rw [difAll_turn _ _ _ 512 (Nat.le_refl _), if_pos (by omega), a, k1]
        · rw [getD_turn, if_neg (by omega)]; exact g i hi
/-- A frame bears its check. -/
theorem frame_check {t : Sec} {f : FrameV} (h : reads t = some f) : (t.l.drop 28).take 4 = be 4 (crcOf t.l) := by
  obtain ⟨rfl, ok⟩ := reads_some h
  have e : f.sector.l = f.head ++ (be 4 f.check ++ f.page.l) := rfl
  have hc : f.check = crcOf f.sector.l := by
    unfold FrameV.check
    refine crc_same (by rw [f.sector.h]; simp [FrameV.with_, FrameV.length_head, f.page.h]) fun i hi => ?_
    rw [e]
    show (f.head ++ ([0, 0, 0, 0] ++ f.page.l)).getD i 0 = _
    rw [List.getD_eq_getElem?_getD, List.getD_eq_getElem?_getD]
    have key : ∀ c : List UInt8, c.length = 4 → (f.head ++ (c ++ f.page.l))[i]? = if i < 28 then f.head[i]? else f.page.l[i - 32]? := by
      intro c hc
      by_cases h1 : i < 28
      · rw [if_pos h1, List.getElem?_append_left (by rw [FrameV.length_head]; exact h1)]
      · rw [if_neg h1, List.getElem?_append_right (by rw [FrameV.length_head]; omega), FrameV.length_head, List.getElem?_append_right (by rw [hc]; omega), hc, show i - 28 - 4 = i - 32 by omega]
    rw [key _ rfl, key _ (length_be 4 _)]
  rw [← hc, e, List.drop_left' (FrameV.length_head f), List.take_left' (length_be 4 _)]
theorem take_drop_getD {l m : List UInt8} (hl : l.length = 512) (hm : m.length = 512) (h : ∀ i, 28 ≤ i → i < 32 → l.getD i 0 = m.getD i 0) : (l.drop 28).take 4 = (m.drop 28).take 4 := by
  apply List.ext_getElem?
  intro i
  rw [List.getElem?_take, List.getElem?_take]
  by_cases hi : i < 4
  · rw [if_pos hi, if_pos hi, List.getElem?_drop, List.getElem?_drop]
    have := h (28 + i) (by omega) (by omega)
    rw [List.getD_eq_getElem?_getD, List.getD_eq_getElem?_getD, List.getElem?_eq_getElem (by omega), List.getElem?_eq_getElem (by omega)] at this
    rw [List.getElem?_eq_getElem (by omega), List.getElem?_eq_getElem (by omega)]
    exact congrArg some this
  · rw [if_neg hi, if_neg hi]
theorem be4_inj {a b : Nat} (ha : a < 4294967296) (hb : b < 4294967296) (h : be 4 a = be 4 b) : a = b := by
  have := congrArg beVal h
  rwa [beVal_be 4 a ha, beVal_be 4 b hb] at this
/-- Where bits of a frame were turned there is no frame any more. -/
theorem burst_none {chk : Bool} {turn st : Nat} {s : Sec} (hst : st < 4096) {f : FrameV} (hf : reads s = some f) (ht : (burst chk turn st s 32).2 = true) : reads (burst chk turn st s 32).1 = none := by
  obtain ⟨_, h2, h3⟩ := burst_dif (chk := chk) (turn := turn) (s := s) hst 32 (by omega)
  cases hr : reads (burst chk turn st s 32).1 with
  | none => rfl
  | some g =>
    exfalso
    have c1 := frame_check hf
    have c2 := frame_check hr
    cases hc : chk with
    | false =>
      subst hc
      obtain ⟨⟨c, a, b, d⟩, e⟩ := h2 rfl
      have := take_drop_getD (burst false turn st s 32).1.h s.h e
      rw [c1, c2] at this
      exact crc_burst s.h (burst false turn st s 32).1.h a (d ht) b (by omega) (be4_inj (crcOf_lt _) (crcOf_lt _) this).symm
    | true =>
      subst hc
      obtain ⟨⟨c, a, b, d⟩, e⟩ := h3 rfl
      have hcrc : crcOf (burst true turn st s 32).1.l = crcOf s.l := crc_same (by rw [s.h, (burst true turn st s 32).1.h]) e
      rw [hcrc, ← c1] at c2
      have hs : (burst true turn st s 32).1.l = s.l := by
        apply List.ext_getElem?
        intro i
        by_cases hi : i < 512
        · have key : (burst true turn st s 32).1.l.getD i 0 = s.l.getD i 0 := by
            by_cases h : i < 28 ∨ 32 ≤ i
            · exact e i h
            · have := congrArg (fun l => l[i - 28]?) c2
              simp only [List.getElem?_take, List.getElem?_drop] at this
              rw [if_pos (by omega), if_pos (by omega), show 28 + (i - 28) = i by omega] at this
              rw [List.getD_eq_getElem?_getD, List.getD_eq_getElem?_getD, this]
          rw [List.getD_eq_getElem?_getD, List.getD_eq_getElem?_getD] at key
          rw [List.getElem?_eq_getElem (by rw [(burst true turn st s 32).1.h]; exact hi), List.getElem?_eq_getElem (by rw [s.h]; exact hi)] at key ⊢
          exact congrArg some key
        · rw [List.getElem?_eq_none (by rw [(burst true turn st s 32).1.h]; omega), List.getElem?_eq_none (by rw [s.h]; omega)]
      rw [hs, difAll_self] at a
      have := Nat.pos_of_ne_zero (d ht)
      have h0 : 0 < c * 2 ^ st := Nat.mul_pos this (Nat.pow_pos (by decide))
      omega
end Go.Cib
/-
  Bits of a sector are turned: the walk of (ciboriumlaw08.Burst).over.
-/
namespace Go.Proofs.Ythbaipljlbddcaa
open Go.RowKit Go.Cib
def burstV (A : Int) (T : Nat) (c : Bool) : Value := .agg #[.int .i64 A, .int .u32 T, .bool c]
def burstAt (A : Int) (c : Bool) : Nat := if c = true then (224 + (A.tmod 32 + 32).tmod 32).toNat else ((A.tmod 4096 + 4096).tmod 4096).toNat
set_option maxRecDepth 20000 in
set_option maxHeartbeats 1000000 in
theorem burst_any (w : World) (A : Int) (T : Nat) (hT : T < 4294967296) (c : Bool) (s : Sec) : Calls Try.prog 15 #[burstV A T c, .agg (secA s)] w fun e w' =>
    e = .returned (.tuple #[.agg (secA (burst c T (burstAt A c) s 32).1), .bool (burst c T (burstAt A c) s 32).2]) ∧ Tch [] w w' := by
  unfold burstV
  go_enter Try.func15, Try.ntmps15
  go_upto_if 14 with (first | ((with_reducible refine wc_alloc_arr secT ?_); go_frame; (try simp only [World.size_alloc])) | ((with_reducible apply wc_store_new secT); exact rfl; exact rfl; go_frame))
  have ta : Tch [] w (w.alloc (.cells #[.int .i64 A, .int .u32 T, .bool c] 27)) := (Tch.refl _ _).alloc _
  have ha : (w.alloc (.cells #[.int .i64 A, .int .u32 T, .bool c] 27)).heap[w.heap.size]? = some (.cells #[.int .i64 A, .int .u32 T, .bool c] 27) := heap_alloc_new _ _
  have za : (w.alloc (.cells #[.int .i64 A, .int .u32 T, .bool c] 27)).heap.size = w.heap.size + 1 := World.size_alloc _ _
  generalize w.alloc (.cells #[.int .i64 A, .int .u32 T, .bool c] 27) = wa at *
  have tb : Tch [] wa (wa.alloc (.cells (secA s) 47)) := (Tch.refl _ _).alloc _
  have hb : (wa.alloc (.cells (secA s) 47)).heap[wa.heap.size]? = some (.cells (secA s) 47) := heap_alloc_new _ _
  have zb : (wa.alloc (.cells (secA s) 47)).heap.size = wa.heap.size + 1 := World.size_alloc _ _
  generalize wa.alloc (.cells (secA s) 47) = wb at *
  have tc : Tch [] wb (wb.alloc (.cells (secA (Arr.zero : Sec)) 47)) := (Tch.refl _ _).alloc _
  have hc : (wb.alloc (.cells (secA (Arr.zero : Sec)) 47)).heap[wb.heap.size]? = some (.cells (secA (Arr.zero : Sec)) 47) := heap_alloc_new _ _
  generalize wb.alloc (.cells (secA (Arr.zero : Sec)) 47) = w1 at *
  have HB := Lib.hid (tc.heap (tb.heap ha (by simp)) (by simp))
  have HS := Lib.hid (tc.heap hb (by simp))
  have HR := Lib.hid hc
  have T1 := Lib.hid ((ta.trans tb).trans tc)
  rw [zb, za] at HR
  rw [za] at HS
  clear ta tb tc ha hb hc zb za
  obtain ⟨B, hB⟩ : ∃ B, w.heap.size = B := ⟨_, rfl⟩
  have HW : Hid (w.heap.size ≤ B) := by show _ ≤ _; omega
  rw [hB] at HB HS HR ⊢
  clear hB
  clear wa wb
  go_cut [6, 7] from 13 to 14 (fun x y wx => x = .int .i64 (if c = true then 224 else 0) ∧ y = .int .i64 (if c = true then 256 else 4096) ∧ w1 = wx)
  case first =>
    cases c
    · go_wp2_with fail
      go_meet
      exact ⟨rfl, rfl, rfl⟩
    · go_wp2_with fail
      go_meet
      exact ⟨rfl, rfl, rfl⟩
  case rest =>
  obtain ⟨rfl, rfl, rfl⟩ := hcut
  have hfrom : ∃ fr tp m : Int, (if c = true then 224 else 0 : Int) = fr ∧ (if c = true then 256 else 4096 : Int) = tp ∧ (fr = 0 ∧ tp = 4096 ∧ m = 4096 ∧ c = false ∨ fr = 224 ∧ tp = 256 ∧ m = 32 ∧ c = true) := by
    cases c
    · exact ⟨0, 4096, 4096, rfl, rfl, .inl ⟨rfl, rfl, rfl, rfl⟩⟩
    · exact ⟨224, 256, 32, rfl, rfl, .inr ⟨rfl, rfl, rfl, rfl⟩⟩
  obtain ⟨fr, tp, m, e1, e2, hft⟩ := hfrom
  rw [e1, e2]
  have hm : wrap64 (tp - fr) = m := by rcases hft with ⟨rfl, rfl, rfl, rfl⟩ | ⟨rfl, rfl, rfl, rfl⟩ <;> (unfold wrap64; omega)
  have hm0 : ¬ m = 0 := by rcases hft with ⟨rfl, rfl, rfl, rfl⟩ | ⟨rfl, rfl, rfl, rfl⟩ <;> decide
  have hst : wrap64 (fr + (wrap64 (A.tmod m + m)).tmod m) = ((burstAt A c : Nat) : Int) ∧ burstAt A c < 4096 := by
    rcases hft with ⟨rfl, rfl, rfl, rfl⟩ | ⟨rfl, rfl, rfl, rfl⟩
    · have h1 := Int.tmod_lt_of_pos A (b := 4096) (by decide)
      have h2 : -4096 < A.tmod 4096 := by have := Int.lt_tmod_of_pos A (b := 4096) (by decide); omega
      have h3 : 0 ≤ A.tmod 4096 + 4096 := by omega
      have h4 := Int.tmod_nonneg 4096 h3
      have h5 := Int.tmod_lt_of_pos (A.tmod 4096 + 4096) (b := 4096) (by decide)
      have e : wrap64 (A.tmod 4096 + 4096) = A.tmod 4096 + 4096 := by unfold wrap64; omega
      have hb : burstAt A false = ((A.tmod 4096 + 4096).tmod 4096).toNat := rfl
      rw [e, hb]
      generalize (A.tmod 4096 + 4096).tmod 4096 = x at *
      constructor
      · unfold wrap64; omega
      · omega
    · have h1 := Int.tmod_lt_of_pos A (b := 32) (by decide)
      have h2 : -32 < A.tmod 32 := by have := Int.lt_tmod_of_pos A (b := 32) (by decide); omega
      have h3 : 0 ≤ A.tmod 32 + 32 := by omega
      have h4 := Int.tmod_nonneg 32 h3
      have h5 := Int.tmod_lt_of_pos (A.tmod 32 + 32) (b := 32) (by decide)
      have e : wrap64 (A.tmod 32 + 32) = A.tmod 32 + 32 := by unfold wrap64; omega
      have hb : burstAt A true = (224 + (A.tmod 32 + 32).tmod 32).toNat := rfl
      rw [e, hb]
      generalize (A.tmod 32 + 32).tmod 32 = x at *
      constructor
      · unfold wrap64; omega
      · omega
  have htp : tp = ((burstTo c : Nat) : Int) := by rcases hft with ⟨rfl, rfl, rfl, rfl⟩ | ⟨rfl, rfl, rfl, rfl⟩ <;> rfl
  have HST := Lib.hid hst
  have HTP := Lib.hid htp
  clear e1 e2 hft hst htp
  have c0 : w1.cell? ⟨B, 0, none⟩ = some (.int .i64 A) := by rw [cell_of_row w1 B 0 _ _ _ HB.out]; rfl
  go_upto_block 1 with fail
  rw [HST.out.1, HTP.out]
  have hb5 : burstTo c ≤ 4096 := by cases c <;> decide
  have hs5 := HST.out.2
  obtain ⟨st, hse⟩ : ∃ st, burstAt A c = st := ⟨_, rfl⟩
  rw [hse] at hs5 ⊢
  have HSE := Lib.hid hse
  clear hse
  generalize hbto : burstTo c = bt at *
  have HBT := Lib.hid hbto
  clear HST HTP hm hm0 c0 hbto
  go_loopg [9, 10, 11, 12] 32 (fun q tu i _ _ wr => ∃ j, OnAt 32 i q j ∧ tu = .bool (burst c T st s j).2 ∧ wr.heap[B + 1]? = some (.cells (secA (burst c T st s j).1) 47) ∧ Tch [B + 1] w1 wr)
  case atStart => exact ⟨0, ⟨Nat.zero_le _, rfl, rfl⟩, rfl, HS.out, Tch.refl _ _⟩
  case round =>
    obtain ⟨j, ⟨hj, rfl, rfl⟩, rfl, hs1, ht1⟩ := hrel
    have HS1 := Lib.hid hs1
    have HT1 := Lib.hid ht1
    clear hs1 ht1 HS
    have HR1 := Lib.hid (HT1.out.heap HR.out (by simp))
    have HB1 := Lib.hid (HT1.out.heap HB.out (by simp))
    clear HR HB
    by_cases hjn : j < 32
    · obtain ⟨k, hk⟩ : ∃ k, st + j = k := ⟨_, rfl⟩
      have d1 : wr.cell? ⟨B, 1, none⟩ = some (.int .u32 T) := by rw [cell_of_row wr B 1 _ _ _ HB1.out]; rfl
      have d2 : wr.cell? ⟨B, 2, none⟩ = some (.bool c) := by rw [cell_of_row wr B 2 _ _ _ HB1.out]; rfl
      have HK := Lib.hid hk
      clear hk
      go_upto_region 10 with fail
      go_cut [11, 12] from 31 to 43 (fun x y wx => x = .int .i64 k ∧ y = .bool (decide (224 ≤ k ∧ k < 256)) ∧ wr = wx)
      case first =>
        by_cases h1 : (224 : Int) ≤ (st : Int) + (j : Int)
        · go_wp2_with fail
          go_meet
          have hk := HK.out
          exact ⟨by rw [← hk]; rfl, by congr 1; rw [decide_eq_decide]; omega, rfl⟩
        · go_wp2_with fail
          go_meet
          have hk := HK.out
          exact ⟨by rw [← hk]; rfl, by congr 1; symm; rw [decide_eq_false_iff_not]; omega, rfl⟩
      case rest =>
      obtain ⟨rfl, rfl, rfl⟩ := hcut
      obtain ⟨W, hW⟩ : ∃ W, decide (224 ≤ k ∧ k < 256) = W := ⟨_, rfl⟩
      rw [hW]
      have HWi := Lib.hid hW
      clear hW
      go_upto_region 11 with fail
      go_cut [61] from 31 to 61 (fun y wx => y = .bool (decide (skips c T j k)) ∧ wr = wx)
      case first =>
        have hbit : (bits BinOp.and IntKind.u32 ((T : Int) / 2 ^ j) 1 == 0) = decide (T / 2 ^ j % 2 = 0) := by
          have e : ((T : Int) / 2 ^ j) = ((T / 2 ^ j : Nat) : Int) := by rw [Int.natCast_ediv, Int.natCast_pow]; rfl
          have hlt : T / 2 ^ j < 4294967296 := Nat.lt_of_le_of_lt (Nat.div_le_self _ _) hT
          rw [e, show (1 : Int) = ((1 : Nat) : Int) from rfl, u32_and_nat _ 1 hlt (by omega), nat_mask1, Bool.eq_iff_iff]
          simp
          omega
        have hsk : decide (skips c T j k) = (decide (T / 2 ^ j % 2 = 0) || decide (bt ≤ k) || (W != c)) := by
          rw [← HBT.out, ← HWi.out]
          unfold skips
          rw [Bool.eq_iff_iff]
          simp [or_assoc]
        generalize decide (T / 2 ^ j % 2 = 0) = b0 at *
        have HBI := Lib.hid hbit
        have HSI := Lib.hid hsk
        clear hbit hsk
        cases b0
        · have g0 := HBI.out
          by_cases h2 : bt ≤ k
          · go_wp2_with fail
            go_meet
            exact ⟨by rw [HSI.out]; cases W <;> cases c <;> simp [h2], rfl⟩
          · go_wp2_with fail
            go_meet
            exact ⟨by rw [HSI.out]; cases W <;> cases c <;> simp [h2], rfl⟩
        · have g0 := HBI.out
          go_wp2_with fail
          go_meet
          exact ⟨by rw [HSI.out]; simp, rfl⟩
      case rest =>
      obtain ⟨rfl, rfl⟩ := hcut
      have hbs : burst c T st s (j + 1) = if skips c T j (st + j) then burst c T st s j else (turnAt (burst c T st s j).1 (st + j), true) := rfl
      rw [HK.out] at hbs
      have HBS := Lib.hid hbs
      clear hbs
      by_cases hsk : skips c T j k
      · rw [decide_eq_true hsk]
        go_wp2_with fail
        go_roundg (32 - (j + 1))
        case measure => omega
        case rel =>
          have e := HBS.out
          rw [if_pos hsk] at e
          refine ⟨j + 1, ⟨by omega, by go_num, rfl⟩, ?_, ?_, HT1.out⟩
          · rw [e]
          · rw [e]; exact HS1.out
      · rw [decide_eq_false hsk]
        have hk3 : k < 4096 := by
          have h : ¬ burstTo c ≤ k := fun h => hsk (.inr (.inl h))
          rw [HBT.out] at h
          omega
        have hl := (burst c T st s j).1.h
        obtain ⟨x, hx⟩ : ∃ x, (burst c T st s j).1.l.getD (k / 8) 0 = x := ⟨_, rfl⟩
        have cB : wr.cell? ⟨B + 1, k / 8, none⟩ = some (.int .u8 x.toNat) := by
          rw [← hx]
          rw [cell_of_row wr (B + 1) _ _ _ _ HS1.out]
          show (bytesA _)[k / 8]? = _
          rw [bytesA_get, List.getD_eq_getElem?_getD, List.getElem?_eq_getElem (by omega)]
          rfl
        have fB := frozen_of_row wr (B + 1) (k / 8) _ _ HS1.out
        have HX := Lib.hid hx
        clear hx hl
        go_wp2_with fail
        go_roundg (32 - (j + 1))
        case measure => omega
        case rel =>
          have e := HBS.out
          rw [if_neg hsk] at e
          have hv : Value.int .u8 (bits BinOp.xor IntKind.u8 (x.toNat : Int) (2 ^ (k % 8) % 256)) = bv (turnByte x (k % 8)) := by
            have h7 : k % 8 < 8 := Nat.mod_lt _ (by decide)
            have hp : 2 ^ (k % 8) < 256 := by
              have : 2 ^ (k % 8) < 2 ^ 8 := Nat.pow_lt_pow_right (by decide) h7
              exact this
            have e2 : ((2 : Int) ^ (k % 8) % 256) = ((2 ^ (k % 8) : Nat) : Int) := by
              have e3 : ((2 : Int) ^ (k % 8)) = ((2 ^ (k % 8) : Nat) : Int) := by rw [Int.natCast_pow]; rfl
              rw [e3]
              exact Int.emod_eq_of_lt (Int.natCast_nonneg _) (Int.ofNat_lt.2 hp)
            rw [e2, u8_xor_nat _ _ x.toNat_lt hp]
            unfold bv
            rw [toNat_turn x h7]
          refine ⟨j + 1, ⟨by omega, by go_num, rfl⟩, ?_, ?_, HT1.out.setCell (.inl (by simp)) _⟩
          · rw [e]
          · rw [heap_setCell_cells HS1.out, hv, e]
            show some (Obj.cells ((bytesA _).setIfInBounds _ _) _) = _
            rw [bytesA_set, ← HX.out]
            rfl
    · have h32 : j = 32 := by omega
      subst h32
      go_wp2_with (first | ((with_reducible apply wc_load_var secT HS1.out); exact rfl; go_frame) | ((with_reducible apply wc_store_var secT HR1.out); exact rfl; exact rfl; go_frame))
      refine bodyPost_ret (res_cell_tmp secT.agg rfl _ rfl (setRow_heap _ _ _ _ _ _ HR1.out) (size_secA _)) rfl ?_
      refine ⟨by rw [HSE.out]; simp, ?_⟩
      refine tch_own T1.out (S := [B + 1, B + 1 + 1]) ((HT1.out.mono (by simp)).trans ((Tch.refl _ _).setRow (.inl (by simp)) _)) ?_
      have := HW.out
      simp
      omega
end Go.Proofs.Ythbaipljlbddcaa
/-
  A page that is written, checkpointed, and of whose sector bits are turned, plain.
-/
namespace Go.Cib
open Go Go.RowKit
namespace LogS
theorem Lay.over_none {z : Bool} {m : Int → Sec} {S : LogS} {now : Nat → Page} (h : Lay z m S now) (hu : S.used = 0) : S.over = fun _ => none := by
  obtain ⟨rs, hr⟩ := h.recs
  cases rs with
  | nil =>
    have e : ({ S with dead := false } : LogS) = { S.cleared with dead := false } := hr
    have := congrArg LogS.over e
    exact this
  | cons r rs =>
    have g := Lies.grow (rs := rs) hr.2
    have e1 : (({ S.cleared with dead := false } : LogS).took r).used = 0 + r.length + 2 := rfl
    have g1 := g.1
    rw [e1] at g1
    have e2 : ({ S with dead := false } : LogS).used = S.used := rfl
    omega
theorem Sound.calm {z : Bool} {S : LogS} {now : Nat → Page} (h : Sound z S now) (ha : S.disk.armed = 0) : S.disk.Calm := ⟨h.alive, ha, h.dok⟩
theorem pageOf_none {p : Nat} {s : Sec} (h : reads s = none) : pageOf p s = (Arr.zero, 81) := by
  unfold pageOf
  rw [if_neg]
  rintro ⟨h1, _⟩
  unfold reads at h
  rw [if_pos h1] at h
  cases h
end LogS
namespace FramesP
open BegunP
theorem fits : Fits 7 5 := ⟨by decide, by decide, by decide, by decide⟩
theorem may1 (x : Page) : (S1 7 5).may [(2, x)] = 0 := by
  unfold LogS.may
  have h1 : (S1 7 5).pages = 5 := rfl
  have h2 : (S1 7 5).log = 7 := rfl
  rw [if_pos, if_neg]
  · simp [h2]
  · rw [h1]; simp
theorem now2 (x : Page) : LogS.putNow (fun _ => Arr.zero) (LogS.nats [(2, x)]) 2 = x := rfl
/-- What is committed, and checkpointed. -/
theorem done (x : Page) : ∃ S2 S3 now, (S1 7 5).commit [(2, x)] = (0, S2) ∧ S2.Ok ∧ S2.checkpoint = (0, S3) ∧ LogS.Sound true S3 now ∧ now 2 = x ∧ S3.log = 7 ∧ S3.pages = 5 ∧ S3.disk.Calm ∧ S3.over = fun _ => none := by
  have s1 := sound1 fits
  have g1 : (S1 7 5).gen = 1 := rfl
  rcases s1.commit (by rw [g1]; decide) [(2, x)] with ⟨h, _⟩ | ⟨_, h1, h2, h3, h4, h5, h6⟩ | ⟨_, _, _, _, _, h, _⟩
  · exact absurd (may1 x) h
  · obtain ⟨S2, hS2⟩ : ∃ S2, ((S1 7 5).commit [(2, x)]).2 = S2 := ⟨_, rfl⟩
    rw [hS2] at h2 h3 h4 h5 h6
    have e1 : (S1 7 5).commit [(2, x)] = (0, S2) := Prod.ext h1 hS2
    have a2 := h6 (armed1 fits)
    rw [g1] at h5
    rcases h2.checkpoint (by omega) with ⟨k1, k2, k3, k4, k5, k6, k7, _⟩ | ⟨_, _, _, _, k5, _⟩
    · exact ⟨S2, S2.checkpoint.2, _, e1, h2.ok, Prod.ext k1 rfl, k2, now2 x, k3.trans h3, k4.trans h4, k2.calm (k7 a2), k2.lay.over_none k6⟩
    · exact absurd a2 k5
  · exact absurd (armed1 fits) h
/-- The home of a page, and what is read where it was turned. -/
theorem home {S : LogS} {now : Nat → Page} (h : LogS.Sound true S now) (hk : S.log = 7) (hp : S.pages = 5) (hc : S.disk.Calm) (ho : S.over = fun _ => none) :
    ∃ s f, S.disk.read 11 = (s, 0) ∧ reads s = some f ∧ (∀ t, S.disk.write 11 t = (0, S.disk.put 11 t) ∧ ({ S with disk := S.disk.put 11 t } : LogS).Ok ∧
      ({ S with disk := S.disk.put 11 t } : LogS).read 2 = (LogS.pageOf 2 t, { S with disk := S.disk.put 11 t })) ∧ LogS.pageOf 2 s = (now 2, 0) := by
  have hs := h.size
  rw [hk, hp] at hs
  obtain ⟨T, t1, t2⟩ := h.lay.homes 2 (by omega) (by rw [ho])
  rw [hk] at t2
  have hr : S.disk.read 11 = (S.disk.at_ 11, 0) := hc.read (by decide) (by omega)
  refine ⟨(T.homeF 2 (now 2)).sector, T.homeF 2 (now 2), ?_, reads_sector ⟨t1, by show (0 : Nat) < _; omega, by show 2 < _; omega⟩, fun t => ?_, LogS.pageOf_home (S := T) (now 2) t1 (by decide)⟩
  · rw [hr]; exact congrArg (fun s => (s, (0 : Int))) t2
  · have hw : S.disk.write 11 t = (0, S.disk.put 11 t) := hc.write (by decide) (by omega) t
    refine ⟨hw, h.ok.disk rfl, ?_⟩
    have hc2 := hc.put (i := 11) (by decide) (by omega) t
    have e : ({ S with disk := S.disk.put 11 t } : LogS).disk.read (2 + S.log + 2) = (t, 0) := by
      rw [hk]
      show (S.disk.put 11 t).read 11 = (t, 0)
      rw [hc2.read (by decide) (by show (11 : Int) < S.disk.lasts.length; omega), DiskS.at_put, if_pos rfl]
    unfold LogS.read
    rw [if_neg (by show ¬ S.dead = true; simp [h.live]), if_neg (by show ¬ ((2 : Int) < 0 ∨ (S.pages : Int) ≤ 2); omega)]
    have e2 : ({ S with disk := S.disk.put 11 t } : LogS).over 2 = none := by show S.over 2 = none; rw [ho]
    rw [e2]
    simp only
    rw [e, if_neg (by simp)]
    rfl
end FramesP
end Go.Cib
/-
  A page of whose sector bits are turned is nobody's: the walk of WalFrames.
-/
namespace Go.Proofs.Ythbaipljlbddcaa
open Go.RowKit Go.Cib
open BegunP
theorem wcg_build_img {ops : Array Oper} {rest : List Oper} {a : Act} {w : World} {Q : Exit → Act → World → Prop} {dst : Option Tmp} {ty : TypeId} {pos : String} {af : Array Edge} {ps : Array (Nat × Operand)} {l : List (Nat × Value)} {i : Int} {p : Page} {gd : Option (Nat × Bool)}
    (hf : fillI 0 Arr.zero l = some (imageA i p)) (hw : Region.wanted ⟨dst, .build 66 ps, ty, pos, af, gd⟩ (yielded ops a.tmps) = true) (hl : ps.toList.map (fun q => (q.1, a.eval q.2)) = l) (h : wpList Try.prog ops Q rest (a.put dst (.agg (imageA i p))) w) : wpList Try.prog ops Q (⟨dst, .build 66 ps, ty, pos, af, gd⟩ :: rest) a w :=
  wcg_value hw (exec_build_fill imgZero imgFields imgPl hl hf) h
theorem wcg_slice_img {P : Program} {S T : TypeId} {ops : Array Oper} {rest : List Oper} {a : Act} {w : World} {Q : Exit → Act → World → Prop} {dst : Option Tmp} {ty : TypeId} {pos : String} {af : Array Edge} {x : Operand} {gd : Option (Nat × Bool)} (hz : ∃ i, P.info? T = some i ∧ i.zero = some (.agg (imageA 0 Arr.zero)) ∧ i.size = 481 ∧ i.bytes ≤ 600) (hS : P.underlying S = some (.slice T)) {n : Int} {p : Page}
    (hw : Region.wanted ⟨dst, .buildSlice S 1 #[(0, x)], ty, pos, af, gd⟩ (yielded ops a.tmps) = true) (hx : a.eval x = .agg (imageA n p))
    (h : wpList P ops Q rest (a.put dst (.slice (some ⟨w.heap.size, 0, none⟩) 1 1)) (w.alloc (.cells (imageA n p) T))) : wpList P ops Q (⟨dst, .buildSlice S 1 #[(0, x)], ty, pos, af, gd⟩ :: rest) a w := by
  obtain ⟨i, h1, h2, h3, _⟩ := hz
  refine wcg_value hw ?_ h
  have hf := fill_one (c := (Array.range (1 * 481)).map (((Value.agg (imageA 0 Arr.zero)).cells)[· % ((Value.agg (imageA 0 Arr.zero)).cells).size]!)) (v := imageA n p) (m := 481) (by simp) (size_imageA n p)
  rw [Nat.one_mul] at hf
  generalize imageA n p = v at *
  generalize imageA 0 Arr.zero = z at *
  unfold execOp
  simp only [Instr.buildSlice, List.map_toArray, List.map_cons, List.map_nil, hx]
  simp [Sem.run_bind, run_underlying hS, sizeOf, typeInfo, zeroValue, h1, h2, h3, hf, newRow]
theorem cf_text8 (args : Array Value) (w : World) : (callFunc 23 args).run Try.prog w = .ok (.enter 23 args) w := rfl
theorem cf_works (args : Array Value) (w : World) : (callFunc 20 args).run Try.prog w = .ok (.enter 20 args) w := rfl
theorem burstAt_lt (A : Int) (c : Bool) : burstAt A c < 4096 := by
  unfold burstAt
  cases c
  · have h2 : -4096 < A.tmod 4096 := by have := Int.lt_tmod_of_pos A (b := 4096) (by decide); omega
    have h5 := Int.tmod_lt_of_pos (A.tmod 4096 + 4096) (b := 4096) (by decide)
    rw [if_neg (by decide)]; omega
  · have h5 := Int.tmod_lt_of_pos (A.tmod 32 + 32) (b := 32) (by decide)
    rw [if_pos rfl]; omega
set_option maxRecDepth 20000 in
set_option maxHeartbeats 2000000 in
theorem walFrames_any (w : World) (text : ByteArray) (hts : text.size ≤ 9223372036854775807) (A : Int) (T : Nat) (hT : T < 4294967296) (c : Bool) :
    Calls Try.prog 4 #[.string text, burstV A T c] w fun e w' => e = .returned (.bool true) ∧ Tch [] w w' := by
  unfold burstV
  have t0 : Tch [] w (w.alloc (.cells #[.int .i64 A, .int .u32 T, .bool c] 27)) := (Tch.refl _ _).alloc _
  have b0 : (w.alloc (.cells #[.int .i64 A, .int .u32 T, .bool c] 27)).heap[w.heap.size]? = some (.cells #[.int .i64 A, .int .u32 T, .bool c] 27) := heap_alloc_new _ _
  have T0 := Lib.hid t0
  have B0 := Lib.hid b0
  clear t0 b0
  go_enter Try.func4, Try.ntmps4
  go_upto_region 1 with fail
  generalize w.alloc (.cells #[.int .i64 A, .int .u32 T, .bool c] 27) = w1 at *
  obtain ⟨B, hB⟩ : ∃ B, w.heap.size = B := ⟨_, rfl⟩
  rw [hB] at B0 ⊢
  have B1 : Hid (B < w1.heap.size) := (Array.getElem?_eq_some_iff.1 B0.out).1
  have BW : Hid (w.heap.size ≤ B) := by show _ ≤ _; omega
  clear hB
  obtain ⟨x, hx⟩ : ∃ x, (Arr.text text.data.toList : Page) = x := ⟨_, rfl⟩
  have TX : Hid (∀ w, Calls Try.prog 23 #[.string text] w fun e w' => e = .returned (.agg (secA x)) ∧ Tch [] w w') := by rw [← hx]; exact fun w => ptext_any _ _ hts
  clear hx
  go_wp2_with fail
  refine (begun_any w1 4 4 (k := 7) (h := 5) (by decide) (by decide) FramesP.fits).mono ?_
  rintro e w2 ⟨g, d, L, M, V, rfl, h2, o2, t2, n1, n2, n3, n4, n5⟩
  have H2 := Lib.hid h2
  have O2 := Lib.hid o2
  have T2 := Lib.hid (T0.out.trans t2)
  have BB2 := Lib.hid (t2.heap B0.out (by simp))
  have hPB : B ∉ [g, d, L, M, V] := by
    have := B1.out
    simp only [List.mem_cons, List.not_mem_nil, or_false, not_or]
    omega
  have PB := Lib.hid hPB
  have hOWN : ∀ b ∈ [g, d, L, M, V], w.heap.size ≤ b := by
    have := B1.out; have := BW.out
    intro b hb
    simp only [List.mem_cons, List.not_mem_nil, or_false] at hb
    rcases hb with rfl | rfl | rfl | rfl | rfl <;> omega
  have OWN := Lib.hid hOWN
  clear h2 o2 t2 n1 n2 n3 n4 n5 hPB hOWN T0 B0 B1
  obtain ⟨S2, S3, now, e2, o2, e3, s3, en, k3, p3, c3, v3⟩ := FramesP.done x
  have E2 := Lib.hid e2
  have OS2 := Lib.hid o2
  have E3 := Lib.hid e3
  have S3s := Lib.hid s3
  have EN := Lib.hid en
  have K3 := Lib.hid k3
  have P3 := Lib.hid p3
  obtain ⟨s, f, r1, r2, r3, r4⟩ := FramesP.home s3 k3 p3 c3 v3
  have R1 := Lib.hid r1
  have R2 := Lib.hid r2
  have R3 := Lib.hid r3
  have R4 := Lib.hid r4
  have SZ : Hid (S3.disk.lasts.length = 14) := by have := s3.size; show _ = _; omega
  have DL : Hid (S3.dead = false) := s3.live
  clear e2 o2 e3 s3 en k3 p3 c3 v3 r1 r2 r3 r4
  go_wp2_with (first | (go_at_call 23; refine (TX.out _).mono ?_; rintro e w3 ⟨rfl, t3⟩; have H3 := Lib.hid (H2.out.touch t3 (by simp) (by simp) (by simp) (by simp) (by simp)); have T3 := Lib.hid (T2.out.trans t3); have BB3 := Lib.hid (t3.heap BB2.out (by simp)); clear t3 H2 T2 BB2) | ((with_reducible refine wcg_build_img (fillP 2 x) ?_ ?_ ?_); exact rfl; exact rfl; go_frame) | ((with_reducible refine wcg_slice_img imgInfo imgsS (n := 2) (p := x) ?_ ?_ ?_); exact rfl; exact rfl; go_frame))
  have t4 : Tch [] w3 (w3.alloc (.cells (imageA 2 x) 66)) := (Tch.refl _ _).alloc _
  have i4 : ImgsAt (w3.alloc (.cells (imageA 2 x) 66)) (some ⟨w3.heap.size, 0, none⟩) [(2, x)] := imgsAt_one (heap_alloc_new _ _)
  have H4 := Lib.hid (H3.out.touch t4 (by simp) (by simp) (by simp) (by simp) (by simp))
  have T4 := Lib.hid (T3.out.trans t4)
  have BB4 := Lib.hid (t4.heap BB3.out (by simp))
  have I4 := Lib.hid i4
  have A4 := Lib.hid (LogAt.apart H3.out)
  clear t4 i4 H3 T3 BB3
  generalize w3.alloc (.cells (imageA 2 x) 66) = w4 at *
  generalize w3.heap.size = b4 at *
  clear w3
  refine (commit_any H4.out O2.out (ws := [(2, x)]) I4.out (show 1 ≤ 100000 by decide) A4.out).mono ?_
  rintro e w5 ⟨rfl, h5, t5⟩
  rw [E2.out] at h5 ⊢
  have H5 : Hid (LogAt w5 g d L M V S2) := h5
  have T5 := Lib.hid (tch_own T4.out t5 OWN.out)
  have BB5 := Lib.hid (t5.heap BB4.out PB.out)
  clear h5 t5 H4 T4 BB4 I4 A4
  go_wp2_with fail
  refine (checkpoint_any H5.out OS2.out).mono ?_
  rintro e w6 ⟨rfl, h6, t6⟩
  rw [E3.out] at h6 ⊢
  have H6 : Hid (LogAt w6 g d L M V S3) := h6
  have T6 := Lib.hid (tch_own T5.out t6 OWN.out)
  have BB6 := Lib.hid (t6.heap BB5.out PB.out)
  clear h6 t6 H5 T5 BB5
  go_wp2_with (first | (go_at_call 25; refine (size_any H6.out.hD).mono ?_; rintro e w' ⟨rfl, rfl⟩; rw [SZ.out]) | (go_at_call 26; refine (pages_any H6.out).mono ?_; rintro e w' ⟨rfl, rfl⟩; rw [DL.out, P3.out, if_neg (by decide)]))
  refine (read_any H6.out.hD 11).mono ?_
  rintro e w7 ⟨rfl, t7⟩
  rw [R1.out]
  have t8 : Tch [] w7 (w7.alloc (.cells (secA s) 47)) := (Tch.refl _ _).alloc _
  have X8 : Hid ((w7.alloc (.cells (secA s) 47)).heap[w7.heap.size]? = some (.cells (secA s) 47)) := heap_alloc_new _ _
  have H8 := Lib.hid (H6.out.touch (t7.trans t8) (by simp) (by simp) (by simp) (by simp) (by simp))
  have T8 := Lib.hid (T6.out.trans (t7.trans t8))
  have BB8 := Lib.hid ((t7.trans t8).heap BB6.out (by simp))
  clear t7 t8 H6 T6 BB6
  go_upto_region 6 with (first | ((with_reducible refine wc_alloc_arr secT ?_); go_frame; (try simp only [World.size_alloc])) | ((with_reducible apply wc_store_new secT); exact rfl; exact rfl; go_frame))
  generalize w7.alloc (.cells (secA s) 47) = w8 at *
  generalize w7.heap.size = b8 at *
  clear w7
  have d0 : w8.cell? ⟨B, 0, none⟩ = some (.int .i64 A) := by rw [cell_of_row w8 B 0 _ _ _ BB8.out]; rfl
  have d1 : w8.cell? ⟨B, 1, none⟩ = some (.int .u32 T) := by rw [cell_of_row w8 B 1 _ _ _ BB8.out]; rfl
  have d2 : w8.cell? ⟨B, 2, none⟩ = some (.bool c) := by rw [cell_of_row w8 B 2 _ _ _ BB8.out]; rfl
  go_wp2_with ((with_reducible apply wc_load_var secT X8.out); exact rfl; go_frame)
  refine (burst_any w8 A T hT c s).mono ?_
  rintro e w9 ⟨rfl, t9⟩
  obtain ⟨bb, hbb⟩ : ∃ bb, burst c T (burstAt A c) s 32 = bb := ⟨_, rfl⟩
  obtain ⟨t, turned⟩ := bb
  rw [hbb]
  have HBB := Lib.hid hbb
  have ta : Tch [] w9 (w9.alloc (.cells (secA t) 47)) := (Tch.refl _ _).alloc _
  have XA : Hid ((w9.alloc (.cells (secA t) 47)).heap[w9.heap.size]? = some (.cells (secA t) 47)) := heap_alloc_new _ _
  have HA := Lib.hid (H8.out.touch (t9.trans ta) (by simp) (by simp) (by simp) (by simp) (by simp))
  have TA := Lib.hid (T8.out.trans (t9.trans ta))
  clear t9 ta H8 T8 BB8 X8 d0 d1 d2 hbb
  simp only
  go_upto_region 7 with (first | ((with_reducible refine wc_alloc_arr secT ?_); go_frame; (try simp only [World.size_alloc])) | ((with_reducible apply wc_store_new secT); exact rfl; exact rfl; go_frame))
  generalize w9.alloc (.cells (secA t) 47) = wa at *
  generalize w9.heap.size = ba at *
  clear w9
  obtain ⟨q1, q2, q3⟩ := R3.out t
  have Q1 := Lib.hid q1
  have Q2 := Lib.hid q2
  have Q3 := Lib.hid q3
  clear q1 q2 q3
  go_wp2_with ((with_reducible apply wcg_load_var secT XA.out); exact rfl; exact rfl; go_frame)
  refine (write_any HA.out.hD 11 t).mono ?_
  rintro e wb ⟨rfl, hb, tb⟩
  rw [Q1.out] at hb ⊢
  have HB : Hid (LogAt wb g d L M V { S3 with disk := S3.disk.put 11 t }) := HA.out.disk hb (tb.mono (by simp))
  have TB := Lib.hid (tch_own TA.out tb (fun b hb => OWN.out b (by simp at hb ⊢; omega)))
  clear hb tb HA TA XA
  go_wp2_with fail
  refine (logRead_any HB.out Q2.out 2).mono ?_
  rintro e wc ⟨rfl, hc, tc⟩
  rw [Q3.out]
  obtain ⟨pp, hpp⟩ : ∃ pp, LogS.pageOf 2 t = pp := ⟨_, rfl⟩
  obtain ⟨y, fe⟩ := pp
  have HP := Lib.hid hpp
  rw [hpp]
  simp only
  have tc2 := tch_own TB.out tc (fun b hb => OWN.out b (by simp at hb ⊢; omega))
  have TC := Lib.hid (tc2.alloc (.cells (secA y) 59))
  have XC : Hid ((wc.alloc (.cells (secA y) 59)).heap[wc.heap.size]? = some (.cells (secA y) 59)) := heap_alloc_new _ _
  clear hc tc tc2 TB HB hpp
  go_upto_region 10 with (first | ((with_reducible refine wc_alloc_arr pageT ?_); go_frame; (try simp only [World.size_alloc])) | ((with_reducible apply wc_store_new pageT); exact rfl; exact rfl; go_frame))
  generalize wc.alloc (.cells (secA y) 59) = wd at *
  generalize wc.heap.size = bd at *
  clear wc
  have hfin : turned = true ∧ y = Arr.zero ∧ fe = 81 ∨ turned = false ∧ y = x ∧ fe = 0 := by
    have e := HBB.out
    have hp := HP.out
    cases turned with
    | true =>
      have h := burst_none (burstAt_lt A c) R2.out (chk := c) (turn := T) (s := s) (by rw [e])
      rw [e] at h
      rw [LogS.pageOf_none h] at hp
      cases hp
      exact .inl ⟨rfl, rfl, rfl⟩
    | false =>
      have h := (burst_dif (chk := c) (turn := T) (s := s) (burstAt_lt A c) 32 (by decide)).1 (by rw [e])
      rw [e] at h
      have h2 : t = s := h
      rw [h2, R4.out, EN.out] at hp
      cases hp
      exact .inr ⟨rfl, rfl, rfl⟩
  clear HBB HP R1 R2 R3 R4 Q1 Q2 Q3
  rcases hfin with ⟨rfl, rfl, rfl⟩ | ⟨rfl, rfl, rfl⟩
  · go_wp2_with (first | ((with_reducible apply wcg_load_var pageT XC.out); exact rfl; exact rfl; go_frame) | ((with_reducible refine wcg_build_arr pageT ?_ ?_); exact rfl; go_frame) | ((with_reducible refine wcg_eql_arr pageT (s := Arr.zero) (t := Arr.zero) ?_ ?_ ?_ ?_); exact rfl; exact rfl; exact rfl; rw [decide_eq_true rfl]; go_frame) | (go_at_call 20; refine (works_any _).mono ?_; rintro e we ⟨rfl, te⟩; have TE := Lib.hid (TC.out.trans te); clear te TC))
    go_ret
    exact ⟨rfl, TE.out⟩
  · go_upto_region 12 with fail
    have CX : Hid (∀ w', Tch [] wd w' → w'.heap[bd]? = some (.cells (secA y) 59)) := fun w' h => h.heap XC.out (by simp)
    have CT : Hid (∀ w', Tch [] wd w' → Calls Try.prog 23 #[.string text] w' fun e w'' => e = .returned (.agg (secA y)) ∧ Tch [] wd w'') := fun w' h => (TX.out w').mono (by rintro e w'' ⟨h1, h2⟩; exact ⟨h1, h.trans h2⟩)
    have CW : Hid (∀ w', Tch [] wd w' → Calls Try.prog 20 #[] w' fun e w'' => e = .returned (.bool true) ∧ Tch [] wd w'') := fun w' h => (works_any w').mono (by rintro e w'' ⟨h1, h2⟩; exact ⟨h1, h.trans h2⟩)
    refine wp_region_walk (C := fun w' => Tch [] wd w') 11 (by kernel_rfl) (by kernel_rfl) ((Tch.refl _ _).drew) ?_
    simp only [List.take_succ_cons, List.take_zero, List.drop_succ_cons, List.drop_zero]
    (repeat (first
      | ((with_reducible refine wq_load_var pageT CX.out ?_ ?_ ?_); exact rfl; exact rfl; go_frame)
      | ((with_reducible refine wq_eql_arr pageT (s := y) (t := y) ?_ ?_ ?_ ?_); exact rfl; exact rfl; exact rfl; rw [decide_eq_true rfl]; go_frame)
      | ((with_reducible refine wq_fn cf_text8 ?_ ?_ CT.out ?_); exact rfl; exact rfl; go_frame)
      | ((with_reducible refine wq_fn cf_works ?_ ?_ CW.out ?_); exact rfl; exact rfl; go_frame)
      | go_big_quiet_skip | (go_big_quiet_want; go_big_quiet_op; first | go_big_quiet_on | (refine ⟨_, fun _ _ => rfl, ?_⟩; go_big_quiet_on))))
    refine wpQuiet_nil ?_
    intro we te
    have TE := Lib.hid (TC.out.trans te)
    clear te TC CX CT CW
    go_wp2_with fail
    go_ret
    exact ⟨rfl, TE.out⟩
end Go.Proofs.Ythbaipljlbddcaa
/-
  Two logs to which the same is committed, plain: both tell the same, opened anew or not.
-/
namespace Go.Cib
open Go Go.RowKit
namespace LogS
/-- Two sound logs of the same pages; n bounds their generations. -/
structure Twin (k h n : Nat) (A B : LogS) (now : Nat → Page) : Prop where
  a : Sound true A now
  b : Sound true B now
  ka : A.log = k
  kb : B.log = k
  ha : A.pages = h
  hb : B.pages = h
  ga : A.gen ≤ n
  gb : B.gen ≤ n
  ra : A.disk.armed = 0
  rb : B.disk.armed = 0
theorem may_congr {A B : LogS} (h1 : A.log = B.log) (h2 : A.pages = B.pages) (w : List (Int × Page)) : A.may w = B.may w := by
  unfold may; rw [h1, h2]
/-- A Commit of a log whose disk is calm. -/
theorem Sound.commit_calm {S : LogS} {now : Nat → Page} (h : Sound true S now) (hg : S.gen + 1 < 18446744073709551616) (ha : S.disk.armed = 0) (w : List (Int × Page)) :
    ∃ T, S.commit w = (S.may w, T) ∧ Sound true T (if S.may w = 0 then putNow now (nats w) else now) ∧ T.log = S.log ∧ T.pages = S.pages ∧ T.gen ≤ S.gen + 1 ∧ T.disk.armed = 0 := by
  rcases h.commit hg w with ⟨h1, h2⟩ | ⟨h1, h2, h3, h4, h5, h6, h7⟩ | ⟨_, _, _, _, _, h6, _⟩
  · exact ⟨S, h2, by rw [if_neg h1]; exact h, rfl, rfl, Nat.le_succ _, ha⟩
  · exact ⟨(S.commit w).2, by rw [h1]; exact Prod.ext h2 rfl, by rw [if_pos h1]; exact h3, h4, h5, h6, h7 ha⟩
  · exact absurd ha h6
/-- An Open of a sound log's disk that is calm. -/
theorem Sound.open_calm {S : LogS} {now : Nat → Page} (h : Sound true S now) (hg : S.gen + 1 < 18446744073709551616) (ha : S.disk.armed = 0) :
    ∃ T, LogS.opens S.disk = (0, some T, T.disk) ∧ Sound true T now ∧ T.log = S.log ∧ T.pages = S.pages ∧ T.gen ≤ S.gen + 1 ∧ T.disk.armed = 0 := by
  have f : Found true S.log S.pages S.gen S.disk now := ⟨S, rfl, h, rfl, rfl, Nat.le_refl _⟩
  rcases f.opens hg with ⟨T, t1, t2, t3, t4, t5, t6⟩ | ⟨E, _, e2, _⟩
  · exact ⟨T, t1, t2, t3, t4, t5, t6 ha⟩
  · exact absurd ha e2
theorem Twin.opens {k h n : Nat} {A B : LogS} {now : Nat → Page} (t : Twin k h n A B now) (hn : n + 1 < 18446744073709551616) : ∃ T, LogS.opens A.disk = (0, some T, T.disk) ∧ Twin k h (n + 1) T B now := by
  obtain ⟨T, t1, t2, t3, t4, t5, t6⟩ := t.a.open_calm (by have := t.ga; omega) t.ra
  exact ⟨T, t1, t2, t.b, t3.trans t.ka, t.kb, t4.trans t.ha, t.hb, by have := t.ga; omega, by have := t.gb; omega, t6, t.rb⟩
theorem Twin.commit {k h n : Nat} {A B : LogS} {now : Nat → Page} (t : Twin k h n A B now) (hn : n + 1 < 18446744073709551616) (w : List (Int × Page)) :
    ∃ e A' B' now', A.commit w = (e, A') ∧ B.commit w = (e, B') ∧ Twin k h (n + 1) A' B' now' := by
  obtain ⟨T, t1, t2, t3, t4, t5, t6⟩ := t.a.commit_calm (by have := t.ga; omega) t.ra w
  obtain ⟨U, u1, u2, u3, u4, u5, u6⟩ := t.b.commit_calm (by have := t.gb; omega) t.rb w
  have e : B.may w = A.may w := may_congr (t.kb.trans t.ka.symm) (t.hb.trans t.ha.symm) w
  rw [e] at u1 u2
  exact ⟨_, T, U, _, t1, u1, t2, u2, t3.trans t.ka, u3.trans t.kb, t4.trans t.ha, u4.trans t.hb, by have := t.ga; omega, by have := t.gb; omega, t6, u6⟩
theorem Twin.mono {k h n m : Nat} {A B : LogS} {now : Nat → Page} (t : Twin k h n A B now) (hm : n ≤ m) : Twin k h m A B now :=
  ⟨t.a, t.b, t.ka, t.kb, t.ha, t.hb, Nat.le_trans t.ga hm, Nat.le_trans t.gb hm, t.ra, t.rb⟩
theorem Sound.read_any {z : Bool} {S : LogS} {now : Nat → Page} (h : Sound z S now) (p : Int) : S.read p = (if 0 ≤ p ∧ p < (S.pages : Int) then (now p.toNat, 0) else (Arr.zero, 2), S) := by
  by_cases hp : 0 ≤ p ∧ p < (S.pages : Int)
  · rw [if_pos hp]
    obtain ⟨n, rfl⟩ : ∃ n : Nat, p = (n : Int) := ⟨p.toNat, by omega⟩
    exact h.read (by omega)
  · rw [if_neg hp]
    exact h.read_out (by omega)
theorem Twin.read {k h n : Nat} {A B : LogS} {now : Nat → Page} (t : Twin k h n A B now) (p : Int) : ∃ v, A.read p = (v, A) ∧ B.read p = (v, B) :=
  ⟨_, t.a.read_any p, by rw [t.b.read_any p, t.ha, t.hb]⟩
theorem Twin.pending {k h n : Nat} {A B : LogS} {now : Nat → Page} (t : Twin k h n A B now) : A.disk.pending = [] := by
  unfold DiskS.pending
  rw [t.a.still]
  simp
end LogS
end Go.Cib
/-
  The ops of a script of layer 8 in memory; places, and scripts as arguments.
-/
namespace Go.Proofs.Ythbaipljlbddcaa
open Go.ChangeShapes Go.WideShapes Go.ChangeAt Go.RowKit Go.Cib
structure Op8V where
  what : Int
  i : Int
  pa : Option Addr
  pcap : Nat
  pages : List Int
  ta : Option Addr
  tcap : Nat
  texts : List ByteArray
def Op8V.val (o : Op8V) : Array Value := #[.int .i64 o.what, .int .i64 o.i, .slice o.pa o.pages.length o.pcap, .slice o.ta o.texts.length o.tcap]
def Op8V.cells (o : Op8V) : Obj := .cells o.val 41
structure Op8At (w : World) (b off : Nat) (o : Op8V) : Prop where
  c0 : w.cell? ⟨b, off, none⟩ = some (.int .i64 o.what)
  c1 : w.cell? ⟨b, off + 1, none⟩ = some (.int .i64 o.i)
  c2 : w.cell? ⟨b, off + 2, none⟩ = some (.slice o.pa o.pages.length o.pcap)
  c3 : w.cell? ⟨b, off + 3, none⟩ = some (.slice o.ta o.texts.length o.tcap)
  pages : PagesAt w o.pa o.pages
  texts : TextsAt w o.ta o.texts
  txt : ∀ s ∈ o.texts, s.size ≤ 9223372036854775807
  len : o.pages.length ≤ 9223372036854775807
  lo : -9223372036854775808 ≤ o.i
  hi : o.i ≤ 9223372036854775807
def Ops8At (w : World) (a : Option Addr) (os : List Op8V) : Prop :=
  ∀ (j : Nat) (o : Op8V), os[j]? = some o → ∃ b off, a = some ⟨b, off, none⟩ ∧ Op8At w b (off + j * 4) o
theorem Op8At.later {w w' : World} {b off : Nat} {o : Op8V} (h : Op8At w b off o) (ht : Tch [] w w') : Op8At w' b off o :=
  ⟨cell_old ht h.c0, cell_old ht h.c1, cell_old ht h.c2, cell_old ht h.c3, h.pages.later ht, h.texts.later ht, h.txt, h.len, h.lo, h.hi⟩
theorem Ops8At.later {w w' : World} {a : Option Addr} {os : List Op8V} (h : Ops8At w a os) (ht : Tch [] w w') : Ops8At w' a os := fun j o hj => by
  obtain ⟨b, off, h1, h2⟩ := h j o hj
  exact ⟨b, off, h1, h2.later ht⟩
/-- A script from an op on. -/
theorem Ops8At.drop {w : World} {b off : Nat} {os : List Op8V} (h : Ops8At w (some ⟨b, off, none⟩) os) (j : Nat) : Ops8At w (some ⟨b, off + j * 4, none⟩) (os.drop j) := by
  intro i o hi
  rw [List.getElem?_drop] at hi
  obtain ⟨b', off', e, ho⟩ := h (j + i) o hi
  cases e
  refine ⟨b, off + j * 4, rfl, ?_⟩
  rw [show off + j * 4 + i * 4 = off + (j + i) * 4 by omega]
  exact ho
/-- An op's images. -/
def Op8V.imgs (o : Op8V) : List (Int × Page) := imgsOf o.pages o.texts
theorem imgs_len (o : Op8V) : o.imgs.length ≤ 200 := by unfold Op8V.imgs imgsOf; rw [List.length_map, List.length_range]; omega
theorem box8_cells {w : World} {X : Nat} {o : Op8V} (h : w.heap[X]? = some o.cells) :
    w.cell? ⟨X, 0, none⟩ = some (.int .i64 o.what) ∧ w.cell? ⟨X, 1, none⟩ = some (.int .i64 o.i) ∧ w.cell? ⟨X, 2, none⟩ = some (.slice o.pa o.pages.length o.pcap) ∧ w.cell? ⟨X, 3, none⟩ = some (.slice o.ta o.texts.length o.tcap) := by
  unfold Op8V.cells Op8V.val at h
  have c0 := cell_of_row w X 0 _ _ _ h
  have c1 := cell_of_row w X 1 _ _ _ h
  have c2 := cell_of_row w X 2 _ _ _ h
  have c3 := cell_of_row w X 3 _ _ _ h
  simp only [List.getElem?_toArray, List.getElem?_cons_zero, List.getElem?_cons_succ] at c0 c1 c2 c3
  exact ⟨c0, c1, c2, c3⟩
theorem images8 {w : World} {b off : Nat} {o : Op8V} (h : Op8At w b off o) {w0 : World} (ht : Tch [] w w0) (dd : Int) :
    Calls Try.prog 10 #[.agg #[.int .i64 dd, .int .i64 o.i, .slice o.pa o.pages.length o.pcap, .slice o.ta o.texts.length o.tcap]] w0 fun e w' => Tch [] w0 w' ∧ ∃ a cap, e = .returned (.slice a o.imgs.length cap) ∧ ImgsAt w' a o.imgs ∧ ∀ b, a = some ⟨b, 0, none⟩ → w0.heap.size ≤ b := by
  refine (images_any dd o.i (h.pages.later ht) (h.texts.later ht) h.txt h.len).mono ?_
  rintro e w' ⟨t, v, rfl, hv⟩
  obtain ⟨a, cap, rfl, h1, h2⟩ := hv.at_
  exact ⟨t, a, cap, rfl, h1, h2⟩
section
variable {H : Type} {enc : TypeId × Value → H} {w : World}
theorem cellsPlace : Try.prog.cellsOf 23 = 2 := by kernel_rfl
set_option maxRecDepth 20000 in
theorem place_of_trod {fuel : Nat} {cs : List Value} {x : DataW H × List MemPlace} (h : DataW.trod enc Try.prog w 0 (fun _ => true) true fuel 23 cs = some x) :
    ∃ (s l : Int), cs = [.int .i64 s, .int .i64 l] := by
  obtain ⟨xs, n, _, _, hl, hlen, hf⟩ := DataW.trod_struct Try.underlying23 h
  rw [cellsPlace] at hl
  match xs, hlen with
  | [y0, y1], _ =>
    match cs, hl with
    | [v0, v1], _ =>
      have g0 : DataW.trod enc Try.prog w 0 (fun _ => true) true n 3 [v0] = some y0 := by simpa [cellsInt] using hf 0 _ rfl
      have g1 : DataW.trod enc Try.prog w 0 (fun _ => true) true n 3 [v1] = some y1 := by simpa [cellsInt] using hf 1 _ rfl
      obtain ⟨a0, e0, _, _⟩ := DataW.trod_int Try.underlying3 g0
      obtain ⟨a1, e1, _, _⟩ := DataW.trod_int Try.underlying3 g1
      simp only [List.cons.injEq, and_true] at e0 e1
      subst e0 e1
      exact ⟨a0, a1, rfl⟩
set_option maxRecDepth 20000 in
/-- One op, with its bounds. -/
theorem op8_of_trod {fuel : Nat} {cs : List Value} {x : DataW H × List MemPlace} (h : DataW.trod enc Try.prog w 0 (fun _ => true) true fuel 41 cs = some x) :
    ∃ o : Op8V, cs = [.int .i64 o.what, .int .i64 o.i, .slice o.pa o.pages.length o.pcap, .slice o.ta o.texts.length o.tcap] ∧ PagesAt w o.pa o.pages ∧ TextsAt w o.ta o.texts ∧ (∀ s ∈ o.texts, s.size ≤ maxLen) ∧ o.pages.length ≤ maxLen ∧ -9223372036854775808 ≤ o.i ∧ o.i ≤ 9223372036854775807 := by
  obtain ⟨xs, n, _, _, hl, hlen, hf⟩ := DataW.trod_struct Try.underlying41 h
  rw [cellsOp] at hl
  match xs, hlen with
  | [y0, y1, y2, y3], _ =>
    match cs, hl with
    | [v0, v1, v2, v3], _ =>
      have g0 : DataW.trod enc Try.prog w 0 (fun _ => true) true n 3 [v0] = some y0 := by simpa [cellsInt] using hf 0 _ rfl
      have g1 : DataW.trod enc Try.prog w 0 (fun _ => true) true n 3 [v1] = some y1 := by simpa [cellsInt] using hf 1 _ rfl
      have g2 : DataW.trod enc Try.prog w 0 (fun _ => true) true n 36 [v2] = some y2 := by simpa [cellsInts] using hf 2 _ rfl
      have g3 : DataW.trod enc Try.prog w 0 (fun _ => true) true n 39 [v3] = some y3 := by simpa [cellsTexts] using hf 3 _ rfl
      obtain ⟨a0, e0, _, _⟩ := DataW.trod_int Try.underlying3 g0
      obtain ⟨a1, e1, _, w1⟩ := DataW.trod_int Try.underlying3 g1
      obtain ⟨a2, l2, c2, e2, h2, h3, _⟩ := ints_of_trod Try.underlying36 Try.underlying3 cellsInt g2
      obtain ⟨a3, l3, c3, e3, h4, _, h5⟩ := texts_of_trod Try.underlying39 Try.underlying9 cellsStr g3
      simp only [List.cons.injEq, and_true] at e0 e1
      subst e0 e1 e2 e3
      simp only [Lit.wf, Bool.and_eq_true, decide_eq_true_eq] at w1
      exact ⟨⟨a0, a1, a2, c2, l2, a3, c3, l3⟩, rfl, h2, h4, h5, h3, w1.1, w1.2⟩
/-- A script. -/
theorem ops8_of_trod {fuel : Nat} {v : Value} {x : DataW H × List MemPlace} (h : DataW.trod enc Try.prog w 0 (fun _ => true) true fuel 24 [v] = some x) :
    ∃ (a : Option Addr) (os : List Op8V) (cap : Nat), v = .slice a os.length cap ∧ Ops8At w a os ∧ os.length ≤ maxLen ∧ os.length ≤ cap := by
  rcases Deep.open_slice Try.underlying24 h with ⟨hcs, _⟩ | ⟨a, len, cap, m, n, D, Pl, hcs, _, hl, hm, hmm, _, hel⟩
  · simp at hcs
    exact ⟨none, [], 0, hcs, by intro j x hj; simp at hj, by simp, Nat.le_refl _⟩
  · simp at hcs hmm
    rw [cellsOp] at hel
    have hall : ∀ i, i < len → ∃ o : Op8V, w.cells? 0 (a.add (i * 4)) 4 = some [.int .i64 o.what, .int .i64 o.i, .slice o.pa o.pages.length o.pcap, .slice o.ta o.texts.length o.tcap] ∧ PagesAt w o.pa o.pages ∧ TextsAt w o.ta o.texts ∧ (∀ s ∈ o.texts, s.size ≤ maxLen) ∧ o.pages.length ≤ maxLen ∧ -9223372036854775808 ≤ o.i ∧ o.i ≤ 9223372036854775807 := by
      intro i hi
      obtain ⟨cs', h1, h2⟩ := hel i (by omega)
      obtain ⟨o, rfl, h3⟩ := op8_of_trod h2
      exact ⟨o, h1, h3⟩
    haveI : Inhabited Op8V := ⟨⟨0, 0, none, 0, [], none, 0, []⟩⟩
    obtain ⟨f, hf⟩ := Deep.choose_lt hall
    refine ⟨some a, (List.range len).map f, cap, by simpa using hcs, fun j o hj => ?_, by simp; omega, by simp; omega⟩
    have hjl := (List.getElem?_eq_some_iff.1 hj).1
    simp only [List.length_map, List.length_range] at hjl
    have ho : f j = o := by simpa [hjl] using hj
    obtain ⟨h1, h2, h3, h4, h5, h6, h7⟩ := hf j hjl
    rw [ho] at h1 h2 h3 h4 h5 h6 h7
    obtain ⟨_, hc⟩ := cells_get h1
    obtain ⟨_, hc0⟩ := cells_get (hf 0 (by omega)).1
    obtain ⟨b, off, hb⟩ := plain_addr (hc0 0 _ rfl)
    simp only [Nat.zero_mul, Addr.add_zero'] at hb
    subst hb
    have k0 := hc 0 _ rfl
    have k1 := hc 1 _ rfl
    have k2 := hc 2 _ rfl
    have k3 := hc 3 _ rfl
    simp only [add_mk, Nat.add_zero] at k0 k1 k2 k3
    refine ⟨b, off, rfl, k0, k1, k2, k3, h2, h3, fun s hs => ?_, ?_, h6, h7⟩
    · have := h4 s hs; unfold maxLen at this; omega
    · unfold maxLen at h5; omega
end
section
variable {H : Type} {enc : TypeId × Value → H} {w : World}
theorem cellsBurst : Try.prog.cellsOf 27 = 3 := by kernel_rfl
theorem cellsU32 : Try.prog.cellsOf 25 = 1 := by kernel_rfl
theorem cellsBool : Try.prog.cellsOf 4 = 1 := by kernel_rfl
set_option maxRecDepth 20000 in
/-- A burst. -/
theorem burst_of_trod {fuel : Nat} {cs : List Value} {x : DataW H × List MemPlace} (h : DataW.trod enc Try.prog w 0 (fun _ => true) true fuel 27 cs = some x) :
    ∃ (A : Int) (T : Nat) (c : Bool), cs = [.int .i64 A, .int .u32 T, .bool c] ∧ T < 4294967296 := by
  obtain ⟨xs, n, _, _, hl, hlen, hf⟩ := DataW.trod_struct Try.underlying27 h
  rw [cellsBurst] at hl
  match xs, hlen with
  | [y0, y1, y2], _ =>
    match cs, hl with
    | [v0, v1, v2], _ =>
      have g0 : DataW.trod enc Try.prog w 0 (fun _ => true) true n 3 [v0] = some y0 := by simpa [cellsInt] using hf 0 _ rfl
      have g1 : DataW.trod enc Try.prog w 0 (fun _ => true) true n 25 [v1] = some y1 := by simpa [cellsInt, cellsU32] using hf 1 _ rfl
      have g2 : DataW.trod enc Try.prog w 0 (fun _ => true) true n 4 [v2] = some y2 := by simpa [cellsInt, cellsU32, cellsBool] using hf 2 _ rfl
      obtain ⟨a0, e0, _, _⟩ := DataW.trod_int Try.underlying3 g0
      obtain ⟨a1, e1, _, b1⟩ := DataW.trod_int Try.underlying25 g1
      obtain ⟨a2, e2, _⟩ := DataW.trod_bool Try.underlying4 g2
      simp only [List.cons.injEq, and_true] at e0 e1 e2
      subst e0 e1 e2
      simp only [Lit.wf, Bool.and_eq_true, decide_eq_true_eq] at b1
      have b2 : 0 ≤ a1 ∧ a1 ≤ 4294967295 := b1
      refine ⟨a0, a1.toNat, a2, ?_, by omega⟩
      rw [Int.toNat_of_nonneg b2.1]
end
end Go.Proofs.Ythbaipljlbddcaa
/-
  Two logs in memory, and variables of the call's own.
-/
namespace Go.Proofs.Ythbaipljlbddcaa
open Go.RowKit Go.Cib
/-- The blocks of a log lie ahead of the heap's end. -/
theorem LogAt.lt {w : World} {g d L M V : Nat} {S : LogS} (h : LogAt w g d L M V S) : ∀ x ∈ [g, d, L, M, V], x < w.heap.size := by
  intro x hx
  simp only [List.mem_cons, List.not_mem_nil, or_false] at hx
  rcases hx with rfl | rfl | rfl | rfl | rfl
  · exact lt_of_heap h.hg
  · exact lt_of_heap h.hD.hd
  · exact lt_of_heap h.hD.hL
  · exact h.hD.hM.lt
  · exact h.hV.lt
theorem LogAt.far {w w' : World} {g d L M V : Nat} {S : LogS} {K : List Nat} (h : LogAt w g d L M V S) (ht : Tch K w w') (hs : ∀ x ∈ [g, d, L, M, V], x ∉ K) : LogAt w' g d L M V S :=
  h.touch ht (hs g (by simp)) (hs d (by simp)) (hs L (by simp)) (hs M (by simp)) (hs V (by simp))
structure DuoL (w0 w : World) (g1 d1 L1 M1 V1 : Nat) (A : LogS) (g2 d2 L2 M2 V2 : Nat) (B : LogS) (X : List (Nat × Obj)) : Prop where
  a : LogAt w g1 d1 L1 M1 V1 A
  b : LogAt w g2 d2 L2 M2 V2 B
  sep : ∀ x ∈ [g1, d1, L1, M1, V1], x ∉ [g2, d2, L2, M2, V2]
  own : ∀ x ∈ [g1, d1, L1, M1, V1, g2, d2, L2, M2, V2], w0.heap.size ≤ x
  tch : Tch [] w0 w
  box : ∀ q ∈ X, w.heap[q.1]? = some q.2 ∧ q.1 ∉ [g1, d1, L1, M1, V1, g2, d2, L2, M2, V2]
section
variable {w0 w w' : World} {g1 d1 L1 M1 V1 g2 d2 L2 M2 V2 : Nat} {A B C : LogS} {X Y : List (Nat × Obj)}
theorem DuoL.stepA (h : DuoL w0 w g1 d1 L1 M1 V1 A g2 d2 L2 M2 V2 B X) (hA : LogAt w' g1 d1 L1 M1 V1 C) (ht : Tch [g1, d1, L1, M1, V1] w w') : DuoL w0 w' g1 d1 L1 M1 V1 C g2 d2 L2 M2 V2 B X := by
  have hsub : ∀ x ∈ [g1, d1, L1, M1, V1], x ∈ [g1, d1, L1, M1, V1, g2, d2, L2, M2, V2] := fun x hx => by
    have : [g1, d1, L1, M1, V1, g2, d2, L2, M2, V2] = [g1, d1, L1, M1, V1] ++ [g2, d2, L2, M2, V2] := rfl
    rw [this]; exact List.mem_append_left _ hx
  exact ⟨hA, h.b.far ht (fun x hx hm => h.sep x hm hx), h.sep, h.own, tch_own h.tch ht (fun x hx => h.own x (hsub x hx)), fun q hq => ⟨ht.heap (h.box q hq).1 (fun hm => (h.box q hq).2 (hsub _ hm)), (h.box q hq).2⟩⟩
theorem DuoL.stepB (h : DuoL w0 w g1 d1 L1 M1 V1 A g2 d2 L2 M2 V2 B X) (hB : LogAt w' g2 d2 L2 M2 V2 C) (ht : Tch [g2, d2, L2, M2, V2] w w') : DuoL w0 w' g1 d1 L1 M1 V1 A g2 d2 L2 M2 V2 C X := by
  have hsub : ∀ x ∈ [g2, d2, L2, M2, V2], x ∈ [g1, d1, L1, M1, V1, g2, d2, L2, M2, V2] := fun x hx => by
    have : [g1, d1, L1, M1, V1, g2, d2, L2, M2, V2] = [g1, d1, L1, M1, V1] ++ [g2, d2, L2, M2, V2] := rfl
    rw [this]; exact List.mem_append_right _ hx
  exact ⟨h.a.far ht h.sep, hB, h.sep, h.own, tch_own h.tch ht (fun x hx => h.own x (hsub x hx)), fun q hq => ⟨ht.heap (h.box q hq).1 (fun hm => (h.box q hq).2 (hsub _ hm)), (h.box q hq).2⟩⟩
theorem DuoL.same (h : DuoL w0 w g1 d1 L1 M1 V1 A g2 d2 L2 M2 V2 B X) (ht : Tch [] w w') : DuoL w0 w' g1 d1 L1 M1 V1 A g2 d2 L2 M2 V2 B X :=
  ⟨h.a.far ht (by simp), h.b.far ht (by simp), h.sep, h.own, h.tch.trans ht, fun q hq => ⟨ht.heap (h.box q hq).1 (by simp), (h.box q hq).2⟩⟩
theorem DuoL.lt (h : DuoL w0 w g1 d1 L1 M1 V1 A g2 d2 L2 M2 V2 B X) : ∀ x ∈ [g1, d1, L1, M1, V1, g2, d2, L2, M2, V2], x < w.heap.size := by
  intro x hx
  have : [g1, d1, L1, M1, V1, g2, d2, L2, M2, V2] = [g1, d1, L1, M1, V1] ++ [g2, d2, L2, M2, V2] := rfl
  rw [this] at hx
  rcases List.mem_append.1 hx with hx | hx
  · exact h.a.lt x hx
  · exact h.b.lt x hx
theorem DuoL.put (h : DuoL w0 w g1 d1 L1 M1 V1 A g2 d2 L2 M2 V2 B X) (o : Obj) : DuoL w0 (w.alloc o) g1 d1 L1 M1 V1 A g2 d2 L2 M2 V2 B ((w.heap.size, o) :: X) := by
  have ht : Tch [] w (w.alloc o) := (Tch.refl _ _).alloc o
  have hs := h.same ht
  refine ⟨hs.a, hs.b, hs.sep, hs.own, hs.tch, fun q hq => ?_⟩
  rcases List.mem_cons.1 hq with rfl | hq
  · exact ⟨heap_alloc_new _ _, fun hm => Nat.lt_irrefl _ (h.lt _ hm)⟩
  · exact hs.box q hq
theorem DuoL.drop (h : DuoL w0 w g1 d1 L1 M1 V1 A g2 d2 L2 M2 V2 B X) : DuoL w0 w g1 d1 L1 M1 V1 A g2 d2 L2 M2 V2 B [] := ⟨h.a, h.b, h.sep, h.own, h.tch, fun q hq => by cases hq⟩
/-- The first log is opened anew. -/
theorem DuoL.openA {g V : Nat} (h : DuoL w0 w g1 d1 L1 M1 V1 A g2 d2 L2 M2 V2 B X) (hA : LogAt w' g d1 L1 M1 V C) (ht : Tch [d1, L1, M1] w w') (hg : w.heap.size ≤ g) (hv : w.heap.size ≤ V) : DuoL w0 w' g d1 L1 M1 V C g2 d2 L2 M2 V2 B X := by
  have l := h.lt
  have s := h.sep
  have o := h.own
  have hz := h.tch.size
  have e10 : [g1, d1, L1, M1, V1, g2, d2, L2, M2, V2] = [g1, d1, L1, M1, V1] ++ [g2, d2, L2, M2, V2] := rfl
  have hsub : ∀ x ∈ [g2, d2, L2, M2, V2], x ∈ [g1, d1, L1, M1, V1, g2, d2, L2, M2, V2] := fun x hx => by rw [e10]; exact List.mem_append_right _ hx
  have hd : ∀ x ∈ [d1, L1, M1], x ∈ [g1, d1, L1, M1, V1] := fun x hx => by
    simp only [List.mem_cons, List.not_mem_nil, or_false] at hx ⊢
    rcases hx with rfl | rfl | rfl <;> simp
  have hd2 : ∀ x ∈ [d1, L1, M1], x ∈ [g1, d1, L1, M1, V1, g2, d2, L2, M2, V2] := fun x hx => by rw [e10]; exact List.mem_append_left _ (hd x hx)
  have hcase : ∀ x ∈ [g, d1, L1, M1, V], x = g ∨ x = V ∨ x ∈ [d1, L1, M1] := fun x hx => by
    simp only [List.mem_cons, List.not_mem_nil, or_false] at hx ⊢
    rcases hx with rfl | rfl | rfl | rfl | rfl <;> simp
  have f10 : [g, d1, L1, M1, V, g2, d2, L2, M2, V2] = [g, d1, L1, M1, V] ++ [g2, d2, L2, M2, V2] := rfl
  refine ⟨hA, h.b.far ht (fun x hx hm => h.sep x (hd x hm) hx), ?_, ?_, tch_own h.tch ht (fun x hx => o x (hd2 x hx)), fun q hq => ⟨ht.heap (h.box q hq).1 (fun hm => (h.box q hq).2 (hd2 _ hm)), fun hm => ?_⟩⟩
  · intro x hx hm
    have k := l x (hsub x hm)
    rcases hcase x hx with rfl | rfl | hx
    · omega
    · omega
    · exact s x (hd x hx) hm
  · intro x hx
    rw [f10] at hx
    rcases List.mem_append.1 hx with hx | hx
    · rcases hcase x hx with rfl | rfl | hx
      · omega
      · omega
      · exact o x (hd2 x hx)
    · exact o x (hsub x hx)
  · have k1 := (h.box q hq).2
    have k2 := lt_of_heap (h.box q hq).1
    rw [f10] at hm
    rcases List.mem_append.1 hm with hm | hm
    · rcases hcase _ hm with e | e | hm
      · omega
      · omega
      · exact k1 (hd2 _ hm)
    · exact k1 (hsub _ hm)
end
end Go.Proofs.Ythbaipljlbddcaa
/-
  Slices of pages, and of images, read: small laws.
-/
namespace Go.Cib
open Go Go.RowKit
section
variable {P : Program} {T : TypeId} {ops : Array Oper} {rest : List Oper} {a : Act} {w : World} {Q : Exit → Act → World → Prop} {C : World → Prop} {Qs : Act → Prop} {dst : Option Tmp} {ty : TypeId} {pos : String} {af : Array Edge} {x y : Operand} {gd : Option (Nat × Bool)}
/-- The page number of an image of a list. -/
theorem ImgsAt.num {b : Nat} {l : List (Int × Page)} (h : ImgsAt w (some ⟨b, 0, none⟩) l) {i : Nat} {q : Int × Page} (hi : l[i]? = some q) : w.cell? ⟨b, i * 481, none⟩ = some (.int .i64 q.1) := by
  obtain ⟨b', c, e, fr, h1, h2, h3, h4⟩ := h i q hi
  cases h1
  rw [cell_of_row w b (i * 481) _ _ _ h2]
  have h5 : (c.extract (i * 481) (i * 481 + 481))[0]? = (imageA q.1 q.2)[0]? := by rw [h4]
  rw [Array.getElem?_extract] at h5
  rw [if_pos (by omega), Nat.add_zero] at h5
  rw [h5]
  simp [imageA]
set_option maxRecDepth 20000 in
/-- The page of an image of a list. -/
theorem exec_load_listpage (hT : AggT P T 480) {b : Nat} {l : List (Int × Page)} (h : ImgsAt w (some ⟨b, 0, none⟩) l) {i : Nat} {q : Int × Page} (hi : l[i]? = some q) {o : Oper} (ho : o.op = .load T x) (hx : a.eval x = .pointer (some ⟨b, i * 481 + 1, none⟩)) :
    (execOp a.eval o).run P w = .ok (.value (.agg (secA q.2))) w := by
  obtain ⟨b', c, e, fr, h1, h2, h3, h4⟩ := h i q hi
  cases h1
  rw [exec_load_agg hT ho hx h2 (by omega)]
  congr 3
  have h5 : (imageA q.1 q.2).extract 1 481 = secA q.2 := by
    apply Array.toList_inj.1
    rw [Array.toList_extract, List.extract_eq_take_drop]
    have h1 : (imageA q.1 q.2).toList = .int .i64 q.1 :: (secA q.2).toList := by simp [imageA]
    rw [h1, List.drop_succ_cons, List.drop_zero, List.take_of_length_le (by rw [Array.length_toList, size_secA]; omega)]
  rw [← h4, Array.extract_extract] at h5
  rw [← h5]
  congr 1
  omega
theorem wq_load_listpage (hT : AggT P T 480) {b : Nat} {l : List (Int × Page)} (h : ∀ w, C w → ImgsAt w (some ⟨b, 0, none⟩) l) {i : Nat} {q : Int × Page} (hi : l[i]? = some q) (hw : Region.wanted ⟨dst, .load T x, ty, pos, af, gd⟩ (yielded ops a.tmps) = true) (hx : a.eval x = .pointer (some ⟨b, i * 481 + 1, none⟩))
    (hk : wpQuiet P ops C Qs rest (a.put dst (.agg (secA q.2)))) : wpQuiet P ops C Qs (⟨dst, .load T x, ty, pos, af, gd⟩ :: rest) a :=
  wq_value hw (fun w hc => exec_load_listpage hT (h w hc) hi rfl hx) hk
/-- 'append(nil, xs...)', xs a row that is not empty. -/
theorem wc_append_new {n : Nat} (hT : BytesT P T n) {S : TypeId} (hS : P.underlying S = some (.slice T)) (hn : 0 < n) {b : Nat} {ls : List (Arr n)} {cap : Nat} (hb : SecsIn w b ls) (hls : ls ≠ [])
    (hlim : ls.length * n ≤ 140737488355328) {ar : Array Operand} {ts : Array TypeId} (har : ar = #[x, y]) (hts : ts = #[S, S]) (hx : a.eval x = .slice none 0 0) (hy : a.eval y = .slice (some ⟨b, 0, none⟩) ls.length cap)
    (h' : ∀ k cap' w', Tch [] w w' → w.heap.size ≤ k → SecsIn w' k ls → wpList P ops Q rest (a.put dst (.slice (some ⟨k, 0, none⟩) ls.length cap')) w') :
    wpList P ops Q (⟨dst, .call { callee := .builtin .append, args := ar, argTypes := ts }, ty, pos, af, none⟩ :: rest) a w := by
  subst har hts
  obtain ⟨i, h1, h2, h3, h4⟩ := hT.info
  obtain ⟨cur0, e0, hb1, hb2, hb3⟩ := hb
  refine wpList_append_own w rfl x y S rfl w.heap.size T i (.agg (bytesA (List.replicate n 0))) n n hS h1 h4 h2 h3 (by simp [Value.cells]) hn (.slice none 0 0) 0 [] hx (World.ownsRow_nil w _ T n) ⟨b, 0, none⟩ ls.length cap (secsA ls).toList hy (by simp) ?_ ?_ ?_ ?_ (Nat.le_refl _) ?_
  · intro j u hj
    rw [add_mk, Nat.zero_add, cell_of_row w b j _ _ _ hb1]
    rw [← hb3, Array.getElem?_toList] at hj
    have hjs : j < ls.length * n := by
      have := (Array.getElem?_eq_some_iff.1 hj).1
      simp at this
      omega
    rw [Array.getElem?_extract, if_pos (by omega), Nat.zero_add] at hj
    exact hj
  · exact secsA_one ls
  · unfold maxLen
    have : ls.length ≤ ls.length * n := Nat.le_mul_of_pos_right _ hn
    omega
  · rw [Nat.zero_add]; exact hlim
  · intro v' w' hown hgr _
    rw [Nat.zero_add, List.nil_append] at hown
    obtain ⟨hl, hv | ⟨k, cap', cur, rfl, hgk, hk, hc1, hc2, hc3, hc4⟩⟩ := hown
    · exfalso
      obtain ⟨_, h0⟩ := hv
      exact hls (List.eq_nil_of_length_eq_zero h0)
    · have hlen : ls.length * n ≤ cur.size := by rw [hc3]; exact Nat.mul_le_mul_right _ hc1
      refine h' k cap' w' (Tch.of_grown hgr (fun q hq => by simp [Value.ownBlock] at hq)) hgk ⟨cur, T, hk, hlen, ?_⟩
      apply Array.toList_inj.1
      rw [Array.toList_extract, List.extract_eq_take_drop, List.drop_zero, Nat.sub_zero, hc4]
end
/-- The pages behind images. -/
def putL (ls : List Page) (ws : List (Int × Page)) : List Page := ws.foldl (fun l q => l.set q.1.toNat q.2) ls
theorem length_putL (ws : List (Int × Page)) : ∀ ls : List Page, (putL ls ws).length = ls.length := by
  induction ws with
  | nil => exact fun _ => rfl
  | cons q ws ih => intro ls; exact (ih _).trans (List.length_set ..)
theorem putL_take {ls : List Page} {ws : List (Int × Page)} {j : Nat} {q : Int × Page} (h : ws[j]? = some q) : putL ls (ws.take (j + 1)) = (putL ls (ws.take j)).set q.1.toNat q.2 := by
  rw [List.take_add_one, h]
  unfold putL
  rw [List.foldl_append]
  rfl
/-- Pages as a function. -/
def nowOf (ls : List Page) : Nat → Page := fun p => ls.getD p Arr.zero
theorem nowOf_put (ws : List (Int × Page)) : ∀ (ls : List Page), (∀ q ∈ ws, 0 ≤ q.1 ∧ q.1 < (ls.length : Int)) → ∀ (now : Nat → Page), (∀ p, p < ls.length → now p = nowOf ls p) → ∀ p, p < ls.length → LogS.putNow now (LogS.nats ws) p = nowOf (putL ls ws) p := by
  induction ws with
  | nil => exact fun ls _ now h p hp => h p hp
  | cons q ws ih =>
    intro ls hq now h p hp
    have hq0 := hq q (by simp)
    show LogS.putNow (fun p => if p = q.1.toNat then q.2 else now p) (LogS.nats ws) p = nowOf (putL (ls.set q.1.toNat q.2) ws) p
    refine ih (ls.set q.1.toNat q.2) (fun r hr => by rw [List.length_set]; exact hq r (List.mem_cons_of_mem _ hr)) _ (fun p' hp' => ?_) p (by rw [List.length_set]; exact hp)
    rw [List.length_set] at hp'
    unfold nowOf
    rw [List.getD_eq_getElem?_getD, List.getElem?_set]
    by_cases e : p' = q.1.toNat
    · rw [if_pos e, if_pos e.symm, if_pos (by omega)]; rfl
    · rw [if_neg e, if_neg (fun h => e h.symm), h p' hp']
      unfold nowOf
      rw [List.getD_eq_getElem?_getD]
namespace LogS
/-- Only the pages that are there count. -/
theorem Lay.now {z : Bool} {m : Int → Sec} {S : LogS} {now now' : Nat → Page} (h : Lay z m S now) (hn : ∀ p, p < S.pages → now' p = now p) : Lay z m S now' :=
  ⟨h.log3, h.log4, h.pages1, h.pages2, h.used, h.records, h.sup, h.gen1, h.gen2, h.head, h.other, h.recs, h.gens, h.zone, fun p hp ho => by rw [hn p hp]; exact h.homes p hp ho, fun p hp x hx => by rw [hn p hp]; exact h.over p hp x hx⟩
theorem Sound.now {z : Bool} {S : LogS} {now now' : Nat → Page} (h : Sound z S now) (hn : ∀ p, p < S.pages → now' p = now p) : Sound z S now' :=
  ⟨h.lay.now hn, h.dok, h.still, h.alive, h.live, h.size⟩
end LogS
end Go.Cib
/-
  May these images be committed? The walk of ciboriumlaw08.fits.
-/
namespace Go.Proofs.Ythbaipljlbddcaa
open Go.RowKit Go.Cib
def FitsP (ws : List (Int × Page)) (pages log : Int) : Prop := ((∀ q ∈ ws, 0 ≤ q.1 ∧ q.1 < pages) ∧ (ws.map (·.1)).Nodup) ∧ (ws.length : Int) ≤ log - 2
instance (ws : List (Int × Page)) (pages log : Int) : Decidable (FitsP ws pages log) := by unfold FitsP; infer_instance
set_option maxRecDepth 20000 in
set_option maxHeartbeats 1000000 in
theorem fits_any {w : World} {ia : Option Addr} {icap : Nat} {ws : List (Int × Page)} (hI : ImgsAt w ia ws) (hn : ws.length ≤ 100000) (pages log : Int) (hl : -1000000 ≤ log) (hl2 : log ≤ 1000000) :
    Calls Try.prog 11 #[.slice ia ws.length icap, .int .i64 pages, .int .i64 log] w fun e w' => e = .returned (.bool (decide (FitsP ws pages log))) ∧ Tch [] w w' := by
  obtain ⟨m, hm⟩ : ∃ m, ws.length = m := ⟨_, rfl⟩
  rw [hm] at hn ⊢
  have HII := Lib.hid hI
  have HM := Lib.hid hm
  clear hI hm
  go_enter Try.func11, Try.ntmps11
  go_wp2_with fail
  go_loopg [7, 8] m (fun q i _ wr => ∃ j, OnAt m i q j ∧ Tch [] w wr ∧ (∀ x ∈ (ws.take j).map (fun q => q.1), (0 : Int) ≤ x ∧ x < pages) ∧ ((ws.take j).map (·.1)).Nodup)
  case atStart => exact ⟨0, ⟨Nat.zero_le _, rfl, rfl⟩, Tch.refl _ _, by simp, by simp⟩
  case round =>
    obtain ⟨j, ⟨hj, rfl, rfl⟩, ht, hin, hnd⟩ := hrel
    have TW := Lib.hid ht
    have HIN := Lib.hid hin
    have HND := Lib.hid hnd
    clear ht hin hnd
    by_cases hjm : j < m
    · obtain ⟨q, hq⟩ : ∃ q, ws[j]? = some q := ⟨_, List.getElem?_eq_getElem (by rw [HM.out]; exact hjm)⟩
      obtain ⟨ib, ic, ie, ifr, rfl, hib, _⟩ := HII.out j _ hq
      have IR := Lib.hid (HII.out.later TW.out)
      have c0 := IR.out.num hq
      have HQ := Lib.hid hq
      have bad : (¬ ((∀ q ∈ ws, 0 ≤ q.1 ∧ q.1 < pages) ∧ (ws.map (·.1)).Nodup)) → decide (FitsP ws pages log) = false := fun hb => decide_eq_false (fun h => hb h.1)
      have hqm : q ∈ ws := List.mem_of_getElem? hq
      clear hib
      by_cases h0 : q.1 < 0
      · have E2 := Lib.hid (bad (fun hb => by have := (hb.1 q hqm).1; omega))
        clear bad hqm hq
        go_wp2_with fail
        go_ret
        rw [E2.out]
        exact ⟨rfl, TW.out⟩
      by_cases hp : pages ≤ q.1
      · have E2 := Lib.hid (bad (fun hb => by have := (hb.1 q hqm).2; omega))
        clear bad hqm hq
        go_wp2_with fail
        go_ret
        rw [E2.out]
        exact ⟨rfl, TW.out⟩
      have hd : ws.map (·.1) = (ws.take j).map (·.1) ++ (q.1 :: (ws.drop (j + 1)).map (·.1)) := by
        have h2 : ws = ws.take j ++ (q :: ws.drop (j + 1)) := by
          conv => lhs; rw [← List.take_append_drop j ws]
          congr 1
          have hjl : j < ws.length := by rw [HM.out]; exact hjm
          rw [List.drop_eq_getElem_cons hjl]
          congr 1
          exact Option.some.inj ((List.getElem?_eq_getElem hjl).symm.trans hq)
        conv => lhs; rw [h2]
        simp
      have E2 : Hid (q.1 ∈ (ws.take j).map (·.1) → decide (FitsP ws pages log) = false) := fun hmm => bad (fun hb => by
          have hn2 := hb.2
          rw [hd] at hn2
          exact (List.nodup_append.1 hn2).2.2 _ hmm _ (by simp) rfl)
      have htk : (ws.take (j + 1)).map (·.1) = (ws.take j).map (·.1) ++ [q.1] := by rw [List.take_add_one, hq, List.map_append]; rfl
      have HTK := Lib.hid htk
      clear bad hqm hq hd htk
      go_wp2_with fail
      go_loopg [8] j (fun q' i wx => ∃ p, OnAt j i q' p ∧ Tch [] w wx ∧ q.1 ∉ (ws.take p).map (fun q => q.1))
      case atStart => exact ⟨0, ⟨Nat.zero_le _, rfl, rfl⟩, TW.out, by simp⟩
      case round =>
        obtain ⟨p, ⟨hpj, rfl, rfl⟩, ht, hnm⟩ := hrel
        clear TW IR c0
        have TW := Lib.hid ht
        have NM := Lib.hid hnm
        clear ht hnm
        by_cases hpp : p < j
        · obtain ⟨r, hr⟩ : ∃ r, ws[p]? = some r := ⟨_, List.getElem?_eq_getElem (by rw [HM.out]; omega)⟩
          have IR := Lib.hid (HII.out.later TW.out)
          have c0 := IR.out.num HQ.out
          have c1 := IR.out.num hr
          have hmem : r.1 ∈ (ws.take j).map (fun q => q.1) := List.mem_map_of_mem (List.mem_of_getElem? (i := p) (by rw [List.getElem?_take, if_pos hpp]; exact hr))
          have htp : (ws.take (p + 1)).map (fun q => q.1) = (ws.take p).map (fun q => q.1) ++ [r.1] := by rw [List.take_add_one, hr, List.map_append]; rfl
          have MEM := Lib.hid hmem
          have HTP := Lib.hid htp
          clear hr hmem htp
          go_upto_region 9 with fail
          (refine wp_region_walk (C := fun w' => ∃ n, w' = World.drewN wr n) 10 (by kernel_rfl) (by kernel_rfl) ⟨1, rfl⟩ ?_; simp only [List.take_succ_cons, List.take_zero, List.drop_succ_cons, List.drop_zero]; (repeat (first | fail | go_big_quiet_step (fail))); refine wpQuiet_nil ?_; intro _ hw'; obtain ⟨nq, hw''⟩ := hw'; subst hw'')
          have TX := Lib.hid (TW.out.trans (tch_drewN wr nq))
          clear TW IR c0 c1
          generalize wr.drewN nq = wy at *
          by_cases he : r.1 = q.1
          · have E3 : Hid (decide (FitsP ws pages log) = false) := E2.out (he ▸ MEM.out)
            go_wp2_with fail
            go_ret
            rw [E3.out]
            exact ⟨rfl, TX.out⟩
          · go_wp2_with fail
            go_roundg (j - (p + 1))
            case measure => omega
            case rel =>
              refine ⟨p + 1, ⟨by omega, by go_num, rfl⟩, TX.out, ?_⟩
              rw [HTP.out]
              intro hx
              rcases List.mem_append.1 hx with hx | hx
              · exact NM.out hx
              · exact he (List.mem_singleton.1 hx).symm
        · go_wp2_with fail
          go_roundg (m - (j + 1))
          case measure => omega
          case rel =>
            have hpj' : p = j := by omega
            subst hpj'
            refine ⟨p + 1, ⟨by omega, by go_num, rfl⟩, TW.out, ?_, ?_⟩
            · rw [HTK.out]
              intro x hx
              rcases List.mem_append.1 hx with hx | hx
              · exact HIN.out x hx
              · rw [List.mem_singleton.1 hx]; omega
            · rw [HTK.out]
              refine List.nodup_append.2 ⟨HND.out, by simp, ?_⟩
              rintro a ha b hb rfl
              rw [List.mem_singleton] at hb
              exact NM.out (hb ▸ ha)
    · have hfull : ws.take j = ws := List.take_of_length_le (by rw [HM.out]; omega)
      rw [hfull] at HIN HND
      have hjm' : j = m := by omega
      subst hjm'
      have e : decide (FitsP ws pages log) = decide ((j : Int) ≤ log - 2) := by
        have hmm : (ws.length : Int) = (j : Int) := by rw [HM.out]
        have hi : FitsP ws pages log ↔ (j : Int) ≤ log - 2 := ⟨fun h => by have := h.2; omega, fun h => ⟨⟨fun q hq => HIN.out q.1 (List.mem_map_of_mem hq), HND.out⟩, by omega⟩⟩
        exact decide_eq_decide.2 hi
      have E := Lib.hid e
      clear hfull e
      go_wp2_with fail
      go_ret
      rw [E.out]
      exact ⟨rfl, TW.out⟩
end Go.Proofs.Ythbaipljlbddcaa
/-
  The pages behind images: the walk of ciboriumlaw08.over.
-/
namespace Go.Proofs.Ythbaipljlbddcaa
open Go.RowKit Go.Cib
theorem uPages : Try.prog.underlying 34 = some (.slice 59) := by kernel_rfl
set_option maxRecDepth 20000 in
set_option maxHeartbeats 1000000 in
theorem over_any {w : World} {b cap : Nat} {ls : List Page} (hS : SecsIn w b ls) (hls : ls ≠ []) (hlim : ls.length ≤ 100000) {ia : Option Addr} {icap : Nat} {ws : List (Int × Page)} (hI : ImgsAt w ia ws) (hn : ws.length ≤ 100000) (hq : ∀ q ∈ ws, 0 ≤ q.1 ∧ q.1 < (ls.length : Int)) :
    Calls Try.prog 13 #[.slice (some ⟨b, 0, none⟩) ls.length cap, .slice ia ws.length icap] w fun e w' =>
      Tch [] w w' ∧ ∃ k cap', e = .returned (.slice (some ⟨k, 0, none⟩) ls.length cap') ∧ w.heap.size ≤ k ∧ SecsIn w' k (putL ls ws) := by
  obtain ⟨m, hm⟩ : ∃ m, ws.length = m := ⟨_, rfl⟩
  rw [hm] at hn ⊢
  have HII := Lib.hid hI
  have HM := Lib.hid hm
  have HQ := Lib.hid hq
  have HS := Lib.hid hS
  obtain ⟨n, hnn⟩ : ∃ n, ls.length = n := ⟨_, rfl⟩
  have HN := Lib.hid hnn
  have APP : Hid (∀ {ops : Array Oper} {rest : List Oper} {a : Act} {Q : Exit → Act → World → Prop} {dst : Option Tmp} {ty : TypeId} {pos : String} {af : Array Edge} {x y : Operand}, a.eval x = .slice none 0 0 → a.eval y = .slice (some ⟨b, 0, none⟩) n cap →
      (∀ k cap' w', Tch [] w w' → w.heap.size ≤ k → SecsIn w' k ls → wpList Try.prog ops Q rest (a.put dst (.slice (some ⟨k, 0, none⟩) n cap')) w') →
      wpList Try.prog ops Q (⟨dst, .call { callee := .builtin .append, args := #[x, y], argTypes := #[34, 34] }, ty, pos, af, none⟩ :: rest) a w) := by
    intro ops rest a Q dst ty pos af x y hx hy h
    rw [← hnn] at hy h
    exact wc_append_new pageT uPages (by decide) hS hls (by omega) rfl rfl hx hy h
  rw [hnn] at hlim ⊢
  clear hI hm hq hS hnn hls
  go_enter Try.func13, Try.ntmps13
  go_wp2_with ((with_reducible refine APP.out ?_ ?_ (fun k cap' w1 t1 k1 s1 => ?_)); exact rfl; exact rfl; have T1 := Lib.hid t1; have K1 := Lib.hid k1; have S1 := Lib.hid s1; clear t1 k1 s1 APP HS; go_frame)
  go_loopg [6] m (fun q i wx => ∃ j, OnAt m i q j ∧ Tch [k] w1 wx ∧ SecsIn wx k (putL ls (ws.take j)))
  case atStart => exact ⟨0, ⟨Nat.zero_le _, rfl, rfl⟩, Tch.refl _ _, S1.out⟩
  case round =>
    obtain ⟨j, ⟨hj, rfl, rfl⟩, ht, hs⟩ := hrel
    have TR := Lib.hid ht
    have SR := Lib.hid hs
    have tw : Tch [] w wr := tch_own T1.out ht (by have := K1.out; simp; omega)
    have TW := Lib.hid tw
    clear ht hs tw
    by_cases hjm : j < m
    · obtain ⟨q, hq⟩ : ∃ q, ws[j]? = some q := ⟨_, List.getElem?_eq_getElem (by rw [HM.out]; exact hjm)⟩
      obtain ⟨ib, ic, ie, ifr, rfl, hib, _⟩ := HII.out j _ hq
      have IR := Lib.hid (HII.out.later TW.out)
      have hqr := HQ.out q (List.mem_of_getElem? hq)
      obtain ⟨n0, hn0⟩ : ∃ n0 : Nat, q.1 = (n0 : Int) := ⟨q.1.toNat, by omega⟩
      have c0 := IR.out.num hq
      rw [hn0] at c0
      have hn0' : n0 < n := by have := HN.out; omega
      have IC : Hid (∀ w', (∃ n, w' = World.drewN wr n) → ImgsAt w' (some ⟨ib, 0, none⟩) ws) := fun w' ⟨n, e⟩ => by subst e; exact IR.out.later (tch_drewN wr n)
      have hst : putL ls (ws.take (j + 1)) = (putL ls (ws.take j)).set n0 q.2 := by rw [putL_take hq, hn0, Int.toNat_natCast]
      have HST := Lib.hid hst
      have HQJ := Lib.hid hq
      have LEN : Hid ((putL ls (ws.take j)).length = n) := by show _ = _; rw [length_putL, HN.out]
      clear hib hqr hn0 hst hq
      go_upto_region 6 with fail
      (refine wp_region_walk (C := fun w' => ∃ n, w' = World.drewN wr n) 12 (by kernel_rfl) (by kernel_rfl) ⟨1, rfl⟩ ?_; simp only [List.take_succ_cons, List.take_zero, List.drop_succ_cons, List.drop_zero]; (repeat (first | ((with_reducible refine wq_load_listpage pageT.agg IC.out HQJ.out ?_ ?_ ?_); exact rfl; exact rfl; go_frame) | go_big_quiet_step (fail))); refine wpQuiet_nil ?_; intro _ hw'; obtain ⟨nq, hw''⟩ := hw'; subst hw'')
      have SX := Lib.hid (SR.out.touch (tch_drewN wr nq) (by simp))
      have TX := Lib.hid (TR.out.trans ((tch_drewN wr nq).mono (by simp)))
      clear SR TR TW IR IC c0
      generalize wr.drewN nq = wy at *
      refine wc_store_in pageT SX.out (i := n0) (s := q.2) (by rw [LEN.out]; exact hn0') ?_ ?_ (fun w7 s7 t7 => ?_)
      · exact rfl
      · exact rfl
      have S7 := Lib.hid s7
      have T7 := Lib.hid (TX.out.trans t7)
      clear s7 t7 SX TX
      go_frame
      go_wp2_with fail
      go_roundg (m - (j + 1))
      case measure => omega
      case rel => exact ⟨j + 1, ⟨by omega, by go_num, rfl⟩, T7.out, by rw [HST.out]; exact S7.out⟩
    · have hfull : ws.take j = ws := List.take_of_length_le (by rw [HM.out]; omega)
      rw [hfull] at SR
      clear hfull
      go_wp2_with fail
      go_ret
      exact ⟨TW.out, k, cap', rfl, K1.out, SR.out⟩
end Go.Proofs.Ythbaipljlbddcaa
/-
  Does the log tell just these pages? The walk of ciboriumlaw08.holds.
-/
namespace Go.Proofs.Ythbaipljlbddcaa
open Go.RowKit Go.Cib
def HoldsP (now : Nat → Page) (ls : List Page) : Prop := ∀ p, p < ls.length → now p = nowOf ls p
instance (now : Nat → Page) (ls : List Page) : Decidable (HoldsP now ls) := by unfold HoldsP; infer_instance
set_option maxRecDepth 20000 in
set_option maxHeartbeats 1000000 in
theorem holds_any {z : Bool} {w : World} {g d L M V : Nat} {S : LogS} (h : LogAt w g d L M V S) {now : Nat → Page} (s : LogS.Sound z S now) {b cap : Nat} {ls : List Page} (hS : SecsIn w b ls) (hl : ls.length = S.pages) (hb : b ≠ g) :
    Calls Try.prog 19 #[.pointer (some ⟨g, 0, none⟩), .slice (some ⟨b, 0, none⟩) ls.length cap] w fun e w' =>
      e = .returned (.bool (decide (HoldsP now ls))) ∧ LogAt w' g d L M V S ∧ Tch [g] w w' := by
  obtain ⟨n, hn⟩ : ∃ n, ls.length = n := ⟨_, rfl⟩
  have HN := Lib.hid hn
  have HP : Hid (S.pages = n) := by show _ = _; omega
  have HL : Hid (n ≤ 16384) := by have := s.lay.pages2; show _ ≤ _; omega
  have HS := Lib.hid hS
  have HH := Lib.hid h
  have SS := Lib.hid s
  have HB := Lib.hid hb
  have LV : Hid (S.dead = false) := s.live
  rw [hn]
  clear h s hS hl hb hn
  go_enter Try.func19, Try.ntmps19
  go_wp2_with (go_at_call 26; refine (pages_any HH.out).mono ?_; rintro e w' ⟨rfl, rfl⟩; rw [LV.out, HP.out, if_neg (by decide)])
  go_loopg [5, 6, 7] n (fun q i _ _ wx => ∃ j, OnAt n i q j ∧ LogAt wx g d L M V S ∧ Tch [g] w wx ∧ ∀ p, p < j → now p = nowOf ls p)
  case atStart => exact ⟨0, ⟨Nat.zero_le _, rfl, rfl⟩, HH.out, Tch.refl _ _, fun p hp => absurd hp (Nat.not_lt_zero _)⟩
  case round =>
    obtain ⟨j, ⟨hj, rfl, rfl⟩, h1, t1, hp⟩ := hrel
    clear HH
    have HH := Lib.hid h1
    have TT := Lib.hid t1
    have PP := Lib.hid hp
    clear h1 t1 hp
    by_cases hjn : j < n
    · have hr := SS.out.read (p := j) (by rw [HP.out]; exact hjn)
      have RR := Lib.hid hr
      clear hr
      go_wp2_with fail
      refine (logRead_any HH.out SS.out.ok (j : Int)).mono ?_
      rintro e w5 ⟨rfl, h5, t5⟩
      rw [RR.out] at h5 ⊢
      simp only
      have ta : Tch [] w5 (w5.alloc (.cells (secA (now j)) 59)) := (Tch.refl _ _).alloc _
      have xa : (w5.alloc (.cells (secA (now j)) 59)).heap[w5.heap.size]? = some (.cells (secA (now j)) 59) := heap_alloc_new _ _
      have H6 := Lib.hid (h5.far ta (by simp))
      have T6 := Lib.hid ((TT.out.trans t5).trans (ta.mono (by simp)))
      have X6 := Lib.hid xa
      clear h5 t5 ta xa HH TT
      go_upto_region 7 with (first | ((with_reducible refine wc_alloc_arr pageT ?_); go_frame; (try simp only [World.size_alloc])) | ((with_reducible apply wc_store_new pageT); exact rfl; exact rfl; go_frame))
      generalize w5.alloc (.cells (secA (now j)) 59) = w6 at *
      generalize w5.heap.size = X at *
      clear w5
      have hx : ls[j]? = some (nowOf ls j) := by
        unfold nowOf
        rw [List.getD_eq_getElem?_getD, List.getElem?_eq_getElem (by rw [HN.out]; exact hjn)]; rfl
      have HX := Lib.hid hx
      have CX : Hid (∀ w', (∃ n, w' = World.drewN w6 n) → w'.heap[X]? = some (.cells (secA (now j)) 59)) := drewN_heap X6.out
      have CS : Hid (∀ w', (∃ n, w' = World.drewN w6 n) → SecsIn w' b ls) := drewN_secs (HS.out.touch T6.out (by simp [HB.out]))
      clear hx
      have HFIN : Hid (now j = nowOf ls j → ∀ p, p < j + 1 → now p = nowOf ls p) := fun he p hp => by
        by_cases hpj : p = j
        · rw [hpj]; exact he
        · exact PP.out p (by omega)
      obtain ⟨x, hxx⟩ : ∃ x, now j = x := ⟨_, rfl⟩
      obtain ⟨y, hyy⟩ : ∃ y, nowOf ls j = y := ⟨_, rfl⟩
      have HXX := Lib.hid hxx
      have HYY := Lib.hid hyy
      rw [hxx] at CX X6 RR ⊢
      rw [hyy] at HX
      clear hxx hyy
      (refine wp_region_walk (C := fun w' => ∃ n, w' = World.drewN w6 n) 9 (by kernel_rfl) (by kernel_rfl) ⟨1, rfl⟩ ?_; simp only [List.take_succ_cons, List.take_zero, List.drop_succ_cons, List.drop_zero]; (repeat (first | (first | ((with_reducible refine wq_load_var pageT CX.out ?_ ?_ ?_); exact rfl; exact rfl; go_frame) | ((with_reducible refine wq_load_in pageT CS.out HX.out ?_ ?_ ?_); exact rfl; exact rfl; go_frame) | ((with_reducible refine wq_neq_arr pageT (s := x) (t := y) ?_ ?_ ?_ ?_); exact rfl; exact rfl; exact rfl; go_frame)) | go_big_quiet_step (fail))); refine wpQuiet_nil ?_; intro _ hw'; obtain ⟨nq, hw''⟩ := hw'; subst hw'')
      have H7 := Lib.hid (H6.out.far (tch_drewN w6 nq) (by simp))
      have T7 := Lib.hid (T6.out.trans ((tch_drewN w6 nq).mono (by simp)))
      clear H6 T6 X6 CX CS
      generalize w6.drewN nq = w7 at *
      by_cases he : x = y
      · have hne : (!decide (x = y)) = false := by simp [he]
        have E := Lib.hid he
        clear he
        have hl := HL.out
        go_wp2_with fail
        go_roundg (n - (j + 1))
        case measure => omega
        case rel =>
          have hl := HL.out
          exact ⟨j + 1, ⟨by omega, by go_num, rfl⟩, H7.out, T7.out, HFIN.out (by rw [HXX.out, HYY.out]; exact E.out)⟩
      · have hne : (!decide (x = y)) = true := by simp [he]
        have E2 : Hid (decide (HoldsP now ls) = false) := decide_eq_false (fun hh => he (by rw [← HXX.out, ← HYY.out]; exact hh j (by rw [HN.out]; exact hjn)))
        clear he
        go_wp2_with fail
        go_ret
        rw [E2.out]
        exact ⟨rfl, H7.out, T7.out⟩
    · have E2 : Hid (decide (HoldsP now ls) = true) := decide_eq_true (fun p hp => PP.out p (by have := HN.out; omega))
      go_wp2_with fail
      go_ret
      rw [E2.out]
      exact ⟨rfl, HH.out, TT.out⟩
end Go.Proofs.Ythbaipljlbddcaa
/-
  The power is back, and the log is opened, again and again: the walk of ciboriumlaw08.again.
-/
namespace Go.Cib
open Go Go.RowKit
namespace LogS
/-- A disk on which a log lies, or that is dead and would have one. -/
def Back (k h n : Nat) (D : DiskS) (P : (Nat → Page) → Prop) : Prop := (D.dead = true ∧ Left true k h n D P) ∨ (D.dead = false ∧ D.Ok ∧ ∃ now, P now ∧ Found true k h n D now)
theorem Found.alive {z : Bool} {k h n : Nat} {D : DiskS} {now : Nat → Page} (f : Found z k h n D now) : D.dead = false ∧ D.Ok := by
  obtain ⟨S, rfl, hs, _⟩ := f
  exact ⟨hs.alive, hs.dok⟩
theorem Found.mono {z : Bool} {k h n n' : Nat} {D : DiskS} {now : Nat → Page} (f : Found z k h n D now) (hn : n ≤ n') : Found z k h n' D now := by
  obtain ⟨S, h1, h2, h3, h4, h5⟩ := f
  exact ⟨S, h1, h2, h3, h4, Nat.le_trans h5 hn⟩
end LogS
end Go.Cib
namespace Go.Proofs.Ythbaipljlbddcaa
open Go.RowKit Go.Cib
theorem mod12 (x : Int) : 0 ≤ (x.tmod 12 + 12).tmod 12 ∧ (x.tmod 12 + 12).tmod 12 < 12 ∧ -12 < x.tmod 12 ∧ x.tmod 12 < 12 := by
  have h1 := Int.tmod_lt_of_pos x (b := 12) (by decide)
  have h2 : -12 < x.tmod 12 := by have := Int.lt_tmod_of_pos x (b := 12) (by decide); omega
  have h3 : 0 ≤ x.tmod 12 + 12 := by omega
  exact ⟨Int.tmod_nonneg _ h3, Int.tmod_lt_of_pos _ (by decide), h2, h1⟩
theorem cell_lt {w : World} {b o : Nat} {v : Value} (h : w.cell? ⟨b, o, none⟩ = some v) : b < w.heap.size := by
  by_cases hb : b < w.heap.size
  · exact hb
  · exfalso
    unfold World.cell? at h
    simp [Array.getElem?_eq_none (show w.heap.size ≤ b by omega)] at h
theorem pages_old {w0 : World} {a : Option Addr} {l : List Int} (h : PagesAt w0 a l) {k : Nat} (hk : w0.heap.size ≤ k) : ∀ x, l ≠ [] → a = some x → x.block ≠ k := by
  intro x hl ha
  cases l with
  | nil => exact absurd rfl hl
  | cons y ys =>
    obtain ⟨b, o, e, hc⟩ := h 0 y rfl
    rw [ha] at e
    cases e
    have := cell_lt hc
    show b ≠ k
    omega
set_option maxRecDepth 20000 in
set_option maxHeartbeats 2000000 in
theorem again_any {w0 w : World} {d L M : Nat} {D : DiskS} (h : DiskAt w d L M D) (ht0 : Tch [] w0 w) (hown : ∀ x ∈ [d, L, M], w0.heap.size ≤ x) {k hh n : Nat} {P : (Nat → Page) → Prop} (hB : LogS.Back k hh n D P) (hn : n + 10 < 18446744073709551616)
    {ka : Option Addr} {kcap : Nat} {keep : List Int} (hk : PagesAt w0 ka keep) (hkl : keep.length ≤ 9223372036854775807) {oa : Option Addr} {ocap : Nat} {os : List Op8V} (ho : Ops8At w0 oa os) (_hol : os.length ≤ 9223372036854775807) :
    Calls Try.prog 30 #[.pointer (some ⟨d, 0, none⟩), .slice ka keep.length kcap, .slice oa os.length ocap] w fun e w' =>
      ∃ g V T now, e = .returned (.pointer (some ⟨g, 0, none⟩)) ∧ LogAt w' g d L M V T ∧ LogS.Sound true T now ∧ P now ∧ T.log = k ∧ T.pages = hh ∧ T.gen ≤ n + 4 ∧ Tch [d, L, M] w w' ∧ w.heap.size ≤ g ∧ w.heap.size ≤ V := by
  have HH := Lib.hid h
  have T0 := Lib.hid ht0
  have OWN := Lib.hid hown
  have HB := Lib.hid hB
  have HK := Lib.hid hk
  have HKL := Lib.hid hkl
  have HO := Lib.hid ho
  obtain ⟨m, hm⟩ : ∃ m, os.length = m := ⟨_, rfl⟩
  have HM := Lib.hid hm
  rw [hm] at _hol ⊢
  clear h ht0 hown hB hk hkl ho hm
  go_enter Try.func30, Try.ntmps30
  go_wp2_with fail
  go_loopg [7, 8, 9] 4 (fun q i _ _ wx => ∃ j D', OnAt 4 i q j ∧ j < 4 ∧ DiskAt wx d L M D' ∧ LogS.Back k hh (n + j) D' P ∧ Tch [d, L, M] w wx)
  case atStart => exact ⟨0, D, ⟨Nat.zero_le _, rfl, rfl⟩, by decide, HH.out, HB.out, Tch.refl _ _⟩
  case round =>
    obtain ⟨j, D', ⟨hj, rfl, rfl⟩, hj4, h1, b1, t1⟩ := hrel
    clear HH HB
    have HH := Lib.hid h1
    have HB := Lib.hid b1
    have TT := Lib.hid t1
    clear h1 b1 t1
    go_upto_region 4 with fail
    go_cut [21] from 10 to 21 (fun c wx => c = .bool false ∧ ∃ D1 now, DiskAt wx d L M D1 ∧ P now ∧ LogS.Found true k hh (n + j) D1 now ∧ Tch [d, L, M] w wx)
    case first =>
      have hw0 : Tch [] w0 wr := tch_own T0.out TT.out OWN.out
      rcases HB.out with ⟨hd, hl⟩ | ⟨hd, _, now, hp, hf⟩
      · obtain ⟨now, hp, hf⟩ := hl.back keep
        have he : (D'.on keep).1 = 0 := by unfold DiskS.on; rw [if_pos hd]
        have hap : ∀ x, keep ≠ [] → ka = some x → x.block ≠ d ∧ x.block ≠ L ∧ x.block ≠ M := fun x e1 e2 => ⟨pages_old HK.out (OWN.out d (by simp)) x e1 e2, pages_old HK.out (OWN.out L (by simp)) x e1 e2, pages_old HK.out (OWN.out M (by simp)) x e1 e2⟩
        have HF := Lib.hid hf
        clear hf hl
        go_wp2_with (go_at_call 29; refine (dead_any HH.out).mono ?_; rintro e w' ⟨rfl, rfl⟩; rw [hd])
        refine (on_any HH.out ka kcap keep (IntsAt.touch (show IntsAt w0 ka keep from HK.out) hw0 (by simp)) HKL.out hap).mono ?_
        rintro e w5 ⟨rfl, h5, t5⟩
        rw [he]
        have H5 := Lib.hid h5
        have T5 := Lib.hid (TT.out.trans t5)
        clear h5 t5 hap he
        go_wp2_with fail
        go_meet
        exact ⟨rfl, _, now, H5.out, hp, HF.out, T5.out⟩
      · go_wp2_with (go_at_call 29; refine (dead_any HH.out).mono ?_; rintro e w' ⟨rfl, rfl⟩; rw [hd])
        go_meet
        exact ⟨rfl, D', now, HH.out, hp, hf, TT.out⟩
    case rest =>
    obtain ⟨rfl, D1, now, h1, hp, hf, t1⟩ := hcut
    clear HH HB TT
    have HH := Lib.hid h1
    have HP := Lib.hid hp
    have HF := Lib.hid hf
    have TT := Lib.hid t1
    clear h1 hp hf t1
    go_upto_region 6 with fail
    go_cut [51] from 10 to 51 (fun c wx => c = .bool false ∧ ∃ D2, DiskAt wx d L M D2 ∧ LogS.Found true k hh (n + j) D2 now ∧ (j = 3 → D2.armed = 0) ∧ Tch [d, L, M] w wx)
    case first =>
      by_cases h3 : j < 3
      · by_cases hm1 : j < m
        · obtain ⟨o, hx⟩ : ∃ o, os[j]? = some o := ⟨_, List.getElem?_eq_getElem (by rw [HM.out]; exact hm1)⟩
          have hw0 := tch_own T0.out TT.out OWN.out
          obtain ⟨kb, ko, rfl, hop⟩ := HO.out j o hx
          have c1 := (hop.later hw0).c1
          have hr := mod12 o.i
          clear hop hx hw0
          obtain ⟨r0, r1, r2, r3⟩ := hr
          have r4 : 0 ≤ o.i.tmod 12 % 12 ∧ o.i.tmod 12 % 12 < 12 := by omega
          have ha : D1.arm (o.i.tmod 12 % 12) = (0, { D1 with armed := o.i.tmod 12 % 12 }) := by unfold DiskS.arm; rw [if_neg (by omega)]
          have HA := Lib.hid ha
          clear ha
          go_wp2_with (go_at_call 27; refine (arm_any HH.out _ (by omega)).mono ?_; rintro e w5 ⟨rfl, h5, t5⟩; rw [HA.out] at h5 ⊢; have H5 := Lib.hid h5; have T5 := Lib.hid t5; clear h5 t5)
          go_meet
          exact ⟨rfl, _, H5.out, HF.out.armed r4.1 (by omega), fun h => absurd h (by omega), TT.out.trans (T5.out.mono (by simp))⟩
        · go_wp2_with fail
          go_meet
          exact ⟨rfl, _, HH.out, HF.out, fun h => absurd h (by omega), TT.out⟩
      · have h3' : j = 3 := by omega
        have ha : D1.arm 0 = (0, { D1 with armed := 0 }) := by unfold DiskS.arm; rw [if_neg (by omega)]
        have HA := Lib.hid ha
        clear ha
        subst h3'
        go_wp2_with (go_at_call 27; refine (arm_any HH.out _ (by decide)).mono ?_; rintro e w5 ⟨rfl, h5, t5⟩; rw [HA.out] at h5 ⊢; have H5 := Lib.hid h5; have T5 := Lib.hid t5; clear h5 t5)
        go_meet
        exact ⟨rfl, _, H5.out, HF.out.armed (by decide) (by decide), fun h => rfl, TT.out.trans (T5.out.mono (by simp))⟩
    case rest =>
    obtain ⟨rfl, D2, h1, hf, h3, t1⟩ := hcut
    clear HH HF TT
    have HH := Lib.hid h1
    have HF := Lib.hid hf
    have A3 := Lib.hid h3
    have TT := Lib.hid t1
    clear h1 hf h3 t1
    rcases HF.out.opens (by omega) with ⟨T, e1, s1, k1, p1, g1, _⟩ | ⟨E, e1, a1, l1⟩
    · have S1 := Lib.hid s1
      have K1 := Lib.hid k1
      have P1 := Lib.hid p1
      have G1 : Hid (T.gen ≤ n + 4) := by show _ ≤ _; omega
      clear s1 k1 p1 g1
      have z := TT.out.size
      go_wp2_with fail
      refine (open_ok HH.out e1).mono ?_
      rintro e w8 ⟨g, V, rfl, h8, o8, t8, g8, v8⟩
      go_wp2_with fail
      go_ret
      exact ⟨g, V, T, now, rfl, h8, S1.out, HP.out, K1.out, P1.out, G1.out, TT.out.trans t8, Nat.le_trans z g8, Nat.le_trans z v8⟩
    · have j3 : j < 3 := by
        by_cases h : j = 3
        · exact absurd (A3.out h) a1
        · omega
      have E1 := Lib.hid e1
      have L1 := Lib.hid (l1.imp (Q := P) (g' := n + (j + 1)) (fun n e => e ▸ HP.out) (by omega))
      clear e1 a1 l1
      go_wp2_with fail
      refine (open_any HH.out).mono ?_
      rintro e w8 ⟨t8, h8, hq⟩
      rw [E1.out] at h8 hq
      obtain rfl : e = .returned (.tuple #[.pointer none, .int .i64 6]) := by
        rcases hq with ⟨_, hq⟩ | ⟨_, _, _, hq, _⟩
        · exact hq
        · cases hq
      have H8 := Lib.hid h8
      have T8 := Lib.hid (TT.out.trans t8)
      clear h8 t8 hq
      go_wp2_with (go_at_call 29; refine (dead_any H8.out).mono ?_; rintro e w' ⟨rfl, rfl⟩; rw [L1.out.dead])
      go_roundg (4 - (j + 1))
      case measure => omega
      case rel => exact ⟨j + 1, E, ⟨by omega, by go_num, rfl⟩, by omega, H8.out, .inl ⟨L1.out.dead, L1.out⟩, T8.out⟩
end Go.Proofs.Ythbaipljlbddcaa
/-
  One log in memory, pages and variables of the call's own; and what an op of WalLasts makes of a sound log.
-/
namespace Go.Cib
open Go Go.RowKit
namespace LogS
theorem Sound.arm {z : Bool} {S : LogS} {now : Nat → Page} (h : Sound z S now) {a : Int} (h0 : 0 ≤ a) (h1 : a ≤ 9223372036854775807) : Sound z { S with disk := { S.disk with armed := a } } now :=
  ⟨h.lay.on { S.disk with armed := a }, ⟨h.dok.some, h.dok.size, h.dok.sup, h0, h1⟩, h.still, h.alive, h.live, h.size⟩
theorem Sound.off {z : Bool} {S : LogS} {now : Nat → Page} (h : Sound z S now) : Left z S.log S.pages S.gen S.disk.off (· = now) := by
  have hm : DiskS.Mix S.disk.lasts.length S.disk.at_ (fun _ => False) S.disk.off := fun j h0 h1 => DiskS.Mix.of_still (D := S.disk) h.still (fun _ => False) j h0 h1
  refine Left.of hm rfl h.dok.off rfl h.size.symm fun m' hm' => ⟨S, now, rfl, h.lay.congr fun j hj => ?_, rfl, rfl, Nat.le_refl _⟩
  rcases hm' j (by rw [← h.size]; exact hj) with e | e
  · exact e
  · exact e.elim
theorem Sound.found {S : LogS} {now : Nat → Page} (h : Sound true S now) : Found true S.log S.pages S.gen S.disk now := ⟨S, rfl, h, rfl, rfl, Nat.le_refl _⟩
end LogS
end Go.Cib
namespace Go.Proofs.Ythbaipljlbddcaa
open Go.RowKit Go.Cib
theorem FitsP.may {S : LogS} {ws : List (Int × Page)} {k h : Nat} (hf : FitsP ws (h : Int) (k : Int)) (hk : S.log = k) (hh : S.pages = h) (h22 : k ≤ 22) : S.may ws = 0 := by
  unfold LogS.may
  obtain ⟨h1, h2⟩ := hf
  rw [hk, hh, if_pos h1, if_neg (by omega)]
/-- What is behind an op: it was done, or the power went. -/
def Done (k h n : Nat) (S : LogS) (ls ls' : List Page) (e : Int) : Prop :=
  (e = 0 ∧ LogS.Sound true S (nowOf ls') ∧ S.gen ≤ n + 1) ∨ (e = 6 ∧ S.disk.dead = true ∧ LogS.Left true k h (n + 1) S.disk (fun f => HoldsP f ls ∨ HoldsP f ls'))
theorem holds_self (ls : List Page) : HoldsP (nowOf ls) ls := fun _ _ => rfl
theorem done_commit {k h n : Nat} {S : LogS} {ls : List Page} (s : LogS.Sound true S (nowOf ls)) (hk : S.log = k) (hh : S.pages = h) (hg : S.gen ≤ n) (hn : n + 1 < 18446744073709551616) (hl : ls.length = h) (h22 : k ≤ 22) {ws : List (Int × Page)} (hf : FitsP ws (h : Int) (k : Int)) :
    Done k h n (S.commit ws).2 ls (putL ls ws) (S.commit ws).1 ∧ (S.commit ws).2.log = k ∧ (S.commit ws).2.pages = h := by
  have hm := hf.may hk hh h22
  have hin : ∀ q ∈ ws, 0 ≤ q.1 ∧ q.1 < (ls.length : Int) := by rw [hl]; exact hf.1.1
  have hput := nowOf_put ws ls hin (nowOf ls) (fun _ _ => rfl)
  rcases s.commit (by omega) ws with ⟨h1, _⟩ | ⟨_, h2, h3, h4, h5, h6, _⟩ | ⟨_, h2, h3, h4, h5, h6, h7⟩
  · exact absurd hm h1
  · refine ⟨.inl ⟨h2, h3.now fun p hp => ?_, by omega⟩, h4.trans hk, h5.trans hh⟩
    rw [h5, hh, ← hl] at hp
    exact (hput p hp).symm
  · refine ⟨.inr ⟨h2, h7.dead, ?_⟩, h4.trans hk, h5.trans hh⟩
    rw [← hk, ← hh]
    refine h7.imp (fun f hf => ?_) (by omega)
    rcases hf with rfl | rfl
    · exact .inl (holds_self ls)
    · exact .inr (fun p hp => hput p (by rw [length_putL] at hp; exact hp))
theorem done_check {k h n : Nat} {S : LogS} {ls : List Page} (s : LogS.Sound true S (nowOf ls)) (hk : S.log = k) (hh : S.pages = h) (hg : S.gen ≤ n) (hn : n + 1 < 18446744073709551616) :
    Done k h n S.checkpoint.2 ls ls S.checkpoint.1 ∧ S.checkpoint.2.log = k ∧ S.checkpoint.2.pages = h := by
  rcases s.checkpoint (by omega) with ⟨a1, a2, a3, a4, a5, a6, a7, _⟩ | ⟨a1, a2, a3, a4, a5, a6⟩
  · exact ⟨.inl ⟨a1, a2, by omega⟩, a3.trans hk, a4.trans hh⟩
  · refine ⟨.inr ⟨a1, a6.dead, ?_⟩, a3.trans hk, a4.trans hh⟩
    rw [← hk, ← hh]
    exact a6.imp (fun f hf => by rw [hf]; exact .inl (holds_self ls)) (by omega)
theorem done_off {k h n : Nat} {S : LogS} {ls : List Page} (s : LogS.Sound true S (nowOf ls)) (hk : S.log = k) (hh : S.pages = h) (hg : S.gen ≤ n) : Done k h n { S with disk := S.disk.off } ls ls 6 := by
  refine .inr ⟨rfl, rfl, ?_⟩
  rw [← hk, ← hh]
  exact s.off.imp (fun f hf => by rw [hf]; exact .inl (holds_self ls)) (by omega)
/-- One log, pages and variables of the call's own. -/
structure Solo (w0 w : World) (g d L M V : Nat) (S : LogS) (X : List (Nat × List Page)) (Y : List (Nat × Obj)) : Prop where
  log : LogAt w g d L M V S
  own : ∀ x ∈ [g, d, L, M, V], w0.heap.size ≤ x
  tch : Tch [] w0 w
  pgs : ∀ q ∈ X, SecsIn w q.1 q.2 ∧ q.1 ∉ [g, d, L, M, V]
  box : ∀ q ∈ Y, w.heap[q.1]? = some q.2 ∧ q.1 ∉ [g, d, L, M, V]
section
variable {w0 w w' : World} {g d L M V : Nat} {S T : LogS} {X X' : List (Nat × List Page)} {Y Y' : List (Nat × Obj)}
theorem Solo.step (h : Solo w0 w g d L M V S X Y) (hA : LogAt w' g d L M V T) (ht : Tch [g, d, L, M, V] w w') : Solo w0 w' g d L M V T X Y :=
  ⟨hA, h.own, tch_own h.tch ht h.own, fun q hq => ⟨(h.pgs q hq).1.touch ht (h.pgs q hq).2, (h.pgs q hq).2⟩, fun q hq => ⟨ht.heap (h.box q hq).1 (h.box q hq).2, (h.box q hq).2⟩⟩
theorem Solo.same (h : Solo w0 w g d L M V S X Y) (ht : Tch [] w w') : Solo w0 w' g d L M V S X Y :=
  ⟨h.log.far ht (by simp), h.own, h.tch.trans ht, fun q hq => ⟨(h.pgs q hq).1.touch ht (by simp), (h.pgs q hq).2⟩, fun q hq => ⟨ht.heap (h.box q hq).1 (by simp), (h.box q hq).2⟩⟩
theorem Solo.sub (h : Solo w0 w g d L M V S X Y) (hx : ∀ q ∈ X', q ∈ X) (hy : ∀ q ∈ Y', q ∈ Y) : Solo w0 w g d L M V S X' Y' := ⟨h.log, h.own, h.tch, fun q hq => h.pgs q (hx q hq), fun q hq => h.box q (hy q hq)⟩
theorem Solo.new (h : Solo w0 w g d L M V S X Y) {k : Nat} (hk : w.heap.size ≤ k) : k ∉ [g, d, L, M, V] := fun hm => by have := h.log.lt k hm; omega
theorem Solo.put (h : Solo w0 w g d L M V S X Y) (o : Obj) : Solo w0 (w.alloc o) g d L M V S X ((w.heap.size, o) :: Y) := by
  have hs := h.same ((Tch.refl [] w).alloc o)
  refine ⟨hs.log, hs.own, hs.tch, hs.pgs, fun q hq => ?_⟩
  rcases List.mem_cons.1 hq with rfl | hq
  · exact ⟨heap_alloc_new _ _, h.new (Nat.le_refl _)⟩
  · exact hs.box q hq
theorem Solo.pages (h : Solo w0 w g d L M V S X Y) (ht : Tch [] w w') {k : Nat} {ls : List Page} (hk : w.heap.size ≤ k) (hs : SecsIn w' k ls) : Solo w0 w' g d L M V S ((k, ls) :: X) Y := by
  have h2 := h.same ht
  refine ⟨h2.log, h2.own, h2.tch, fun q hq => ?_, h2.box⟩
  rcases List.mem_cons.1 hq with rfl | hq
  · exact ⟨hs, h.new hk⟩
  · exact h2.pgs q hq
theorem Solo.disk (h : Solo w0 w g d L M V S X Y) {D : DiskS} (hD : DiskAt w' d L M D) (ht : Tch [d, L, M] w w') : Solo w0 w' g d L M V { S with disk := D } X Y :=
  h.step (h.log.disk hD ht) (ht.mono (by simp))
/-- The log is opened anew. -/
theorem Solo.opened {g' V' : Nat} (h : Solo w0 w g d L M V S X Y) (hA : LogAt w' g' d L M V' T) (ht : Tch [d, L, M] w w') (hg : w.heap.size ≤ g') (hv : w.heap.size ≤ V') : Solo w0 w' g' d L M V' T X Y := by
  have hd : ∀ x ∈ [d, L, M], x ∈ [g, d, L, M, V] := fun x hx => by
    simp only [List.mem_cons, List.not_mem_nil, or_false] at hx ⊢
    rcases hx with rfl | rfl | rfl <;> simp
  have hcase : ∀ x ∈ [g', d, L, M, V'], x = g' ∨ x = V' ∨ x ∈ [d, L, M] := fun x hx => by
    simp only [List.mem_cons, List.not_mem_nil, or_false] at hx ⊢
    rcases hx with rfl | rfl | rfl | rfl | rfl <;> simp
  have hz := h.tch.size
  refine ⟨hA, fun x hx => ?_, tch_own h.tch ht (fun x hx => h.own x (hd x hx)), fun q hq => ⟨(h.pgs q hq).1.touch ht (fun hm => (h.pgs q hq).2 (hd _ hm)), fun hm => ?_⟩, fun q hq => ⟨ht.heap (h.box q hq).1 (fun hm => (h.box q hq).2 (hd _ hm)), fun hm => ?_⟩⟩
  · rcases hcase x hx with rfl | rfl | hx
    · omega
    · omega
    · exact h.own x (hd x hx)
  · obtain ⟨⟨cur, e, hb, _⟩, hn⟩ := h.pgs q hq
    have := lt_of_heap hb
    rcases hcase _ hm with e | e | hm
    · omega
    · omega
    · exact hn (hd _ hm)
  · have := lt_of_heap (h.box q hq).1
    rcases hcase _ hm with e | e | hm
    · omega
    · omega
    · exact (h.box q hq).2 (hd _ hm)
end
end Go.Proofs.Ythbaipljlbddcaa
/-
  A log of which a sector rots, plain: what was committed ahead of that record is found; a rotten home is told.
-/
namespace Go.Cib
open Go Go.RowKit
namespace LogS
def base (D : DiskS) (k h : Nat) : LogS := ⟨D, k, h, 1, 0, 0, fun _ => none, false⟩
def nowR (rs : List Rec) : Nat → Page := rs.foldl putNow (fun _ => Arr.zero)
theorem nowR_snoc (rs : List Rec) (r : Rec) : nowR (rs ++ [r]) = putNow (nowR rs) r := by unfold nowR; rw [List.foldl_append]; rfl
/-- A log to which records were written, none of them at home yet. -/
structure Run (k h : Nat) (S : LogS) (rs : List Rec) : Prop where
  snd : Sound true S (nowR rs)
  log : S.log = k
  pages : S.pages = h
  gen : S.gen = 1
  armed : S.disk.armed = 0
  lies : Lies S.disk.at_ (base S.disk k h) rs S
  free : ∀ p, S.used ≤ p → p < k → S.disk.at_ ((2 + p : Nat) : Int) = Arr.zero
  home : ∀ p, p < h → S.disk.at_ ((2 + k + p : Nat) : Int) = ((base S.disk k h).homeF p Arr.zero).sector
theorem homeF_eq {A B : LogS} (h : A.gen = B.gen) (p : Nat) (x : Page) : A.homeF p x = B.homeF p x := by unfold homeF; rw [h]
theorem Run.start {k h : Nat} (f : BegunP.Fits k h) : Run k h (BegunP.S1 k h) [] := by
  refine ⟨BegunP.sound1 f, rfl, rfl, rfl, BegunP.armed1 f, rfl, fun p _ hp => BegunP.free1 f p hp, fun p hp => ?_⟩
  show (BegunP.D1 k h).at_ _ = _
  rw [BegunP.at1 f _ (by omega), if_neg (by have := f.1; omega), if_pos (by omega), show 2 + k + p - (2 + k) = p by omega]
  exact congrArg FrameV.sector (homeF_eq rfl p _)
/-- One record more. -/
theorem Run.write {k h : Nat} {S : LogS} {rs : List Rec} (r : Run k h S rs) {ws : Rec} (hf : Fit S ws) :
    ∃ T, S.write ws = (0, T) ∧ Run k h T (rs ++ [ws]) ∧ T.used = S.used + ws.length + 2 ∧ T.over = overs S.over ws := by
  have hs := r.snd
  have hsz := hs.size
  have hrm := hf.room
  have hcalm := hs.calm r.armed
  have hin : DiskS.InA ((2 + S.log + S.pages : Nat) : Int) (S.writeAs ws) := by
    intro i s hi
    unfold writeAs at hi
    rcases List.mem_append.1 hi with hi | hi
    · exact inA_puts S _ (recFrames ws) (2 + S.used) (by rw [length_frames]; omega) i s hi
    · rcases List.mem_cons.1 hi with hi | hi
      · cases hi
      · exact inA_puts S _ [frame4 ws.length] (3 + S.used + ws.length) (by rw [List.length_singleton]; omega) i s (write_flush hi)
  obtain ⟨a1, a2, a3⟩ := hcalm.acts (S.writeAs ws) (by rw [← hsz]; exact hin)
  rw [← hsz] at a3
  obtain ⟨D, hD⟩ : ∃ D, (S.disk.acts (S.writeAs ws)).2 = D := ⟨_, rfl⟩
  rw [hD] at a2 a3
  have eW : S.write ws = (0, ({ S with disk := D } : LogS).took ws) := by
    unfold LogS.write; rw [if_neg (by rw [a1]; simp), hD]
  have eA : ∀ j : Nat, j < 2 + S.log + S.pages → D.at_ (j : Int) = DiskS.layA (DiskS.layA S.disk.at_ (S.putsA (2 + S.used) (recFrames ws))) (S.putsA (3 + S.used + ws.length) [frame4 ws.length]) (j : Int) := fun j hj => by
    rw [a3 _ (by omega) (by omega)]
    unfold writeAs
    rw [DiskS.layA_append]
    show DiskS.layA _ (S.putsA (3 + S.used + ws.length) [frame4 ws.length] ++ [.flush]) _ = _
    rw [DiskS.layA_append]
    rfl
  have inner : ∀ j : Int, DiskS.layA S.disk.at_ (S.putsA (2 + S.used) (recFrames ws)) j = match (recFrames ws)[(j - ((2 + S.used : Nat) : Int)).toNat]? with | some x => if ((2 + S.used : Nat) : Int) ≤ j then (S.rec_ x).sector else S.disk.at_ j | none => S.disk.at_ j := fun j => layA_puts S (recFrames ws) (2 + S.used) S.disk.at_ j
  have atE : D.at_ ((3 + S.used + ws.length : Nat) : Int) = (S.rec_ (frame4 ws.length)).sector := by
    rw [eA _ (by omega)]
    show (if _ = _ then _ else _) = _
    rw [if_pos rfl]
  have atI : ∀ (i : Nat) (f : FrameV), (recFrames ws)[i]? = some f → D.at_ ((2 + S.used + i : Nat) : Int) = (S.rec_ f).sector := fun i f hi => by
    have := (frames_cases hi).1
    rw [eA _ (by omega)]
    show (if _ = _ then _ else DiskS.layA S.disk.at_ (S.putsA (2 + S.used) (recFrames ws)) _) = _
    rw [if_neg (by omega), inner, show (((2 + S.used + i : Nat) : Int) - ((2 + S.used : Nat) : Int)).toNat = i by omega, hi]
    simp only
    rw [if_pos (by omega)]
  have atO : ∀ j : Nat, j < 2 + S.log + S.pages → (j < 2 + S.used ∨ 2 + S.used + ws.length + 2 ≤ j) → D.at_ (j : Int) = S.disk.at_ (j : Int) := fun j hj hh => by
    rw [eA j hj]
    show (if _ = _ then _ else DiskS.layA S.disk.at_ (S.putsA (2 + S.used) (recFrames ws)) _) = _
    rw [if_neg (by omega), inner]
    split
    · rename_i x hx
      by_cases hc : ((2 + S.used : Nat) : Int) ≤ (j : Int)
      · have := (frames_cases hx).1
        omega
      · rw [if_neg hc]
    · rfl
  rcases hs.write hf with ⟨b1, b2, b3, b4, b5, b6⟩ | ⟨_, _, _, _, b5, _⟩
  · refine ⟨({ S with disk := D } : LogS).took ws, eW, ?_, rfl, rfl⟩
    rw [eW] at b2 b3 b4 b5 b6
    refine ⟨by rw [nowR_snoc]; exact b2, b3.trans r.log, b4.trans r.pages, b5.trans r.gen, b6 r.armed, ?_, fun p hp hk => ?_, fun p hp => ?_⟩
    · have l1 := (r.lies.congr (m' := D.at_) fun p hp => atO _ (by have := hs.lay.used; omega) (by omega)).on D
      refine Lies.snoc l1 ⟨hf.n1, hf.n2, hf.room, hf.lt, hf.nodup, ?_, fun i q hi => ?_, atE⟩
      · exact atI 0 _ (frames_zero ws)
      · have := atI (i + 1) _ (frames_succ hi)
        rw [show 2 + S.used + (i + 1) = 3 + S.used + i by omega] at this
        exact this
    · change S.used + ws.length + 2 ≤ p at hp
      show D.at_ _ = _
      have hk' : p < S.log := by rw [r.log]; exact hk
      rw [atO _ (by omega) (by omega)]
      exact r.free p (by omega) hk
    · have hk' := r.log
      have hp' := r.pages
      show D.at_ _ = _
      rw [atO _ (by omega) (by omega), r.home p hp]
      exact congrArg FrameV.sector (homeF_eq rfl p _)
  · exact absurd r.armed b5
/-- The records ahead of one. -/
def upTo (B : LogS) (rs : List Rec) : LogS := rs.foldl took B
theorem Lies.eq {m : Int → Sec} : ∀ {rs : List Rec} {S T : LogS}, Lies m S rs T → T = upTo S rs
  | [], S, T, h => h
  | x :: rs, S, T, h => Lies.eq (rs := rs) h.2
theorem Lies.take {m : Int → Sec} : ∀ {rs : List Rec} {S T : LogS} (_ : Lies m S rs T) (c : Nat), Lies m S (rs.take c) (upTo S (rs.take c)) ∧ Lies m (upTo S (rs.take c)) (rs.drop c) T
  | [], S, T, h, c => by rw [List.take_nil, List.drop_nil]; exact ⟨rfl, h⟩
  | x :: rs, S, T, h, 0 => ⟨rfl, h⟩
  | x :: rs, S, T, h, c + 1 => by
    obtain ⟨k1, k2⟩ := Lies.take (rs := rs) h.2 c
    exact ⟨⟨h.1, k1⟩, k2⟩
theorem upTo_keep (rs : List Rec) : ∀ S : LogS, (upTo S rs).log = S.log ∧ (upTo S rs).pages = S.pages ∧ (upTo S rs).gen = S.gen ∧ (upTo S rs).dead = S.dead ∧ (upTo S rs).disk = S.disk ∧ (upTo S rs).records = S.records + rs.length := by
  induction rs with
  | nil => exact fun S => ⟨rfl, rfl, rfl, rfl, rfl, rfl⟩
  | cons r rs ih =>
    intro S
    obtain ⟨a, b, c, d, e, f⟩ := ih (S.took r)
    refine ⟨a, b, c, d, e, ?_⟩
    show (upTo (S.took r) rs).records = _
    rw [f]
    show S.records + 1 + rs.length = S.records + (rs.length + 1)
    omega
/-- What the records so far say of the pages. -/
theorem upTo_over (rs : List Rec) : ∀ (S : LogS) (now : Nat → Page) (p : Nat), (∀ x, S.over (p : Int) = some x → now p = x) →
    (∀ x, (upTo S rs).over (p : Int) = some x → rs.foldl putNow now p = x) ∧ ((upTo S rs).over (p : Int) = none → S.over (p : Int) = none ∧ rs.foldl putNow now p = now p) := by
  induction rs with
  | nil => exact fun S now p h => ⟨h, fun h2 => ⟨h2, rfl⟩⟩
  | cons r rs ih =>
    intro S now p h
    have k := overs_now r S.over now p h
    have i := ih (S.took r) (putNow now r) p (fun x hx => k.1 x hx)
    refine ⟨i.1, fun h2 => ?_⟩
    obtain ⟨i1, i2⟩ := i.2 h2
    obtain ⟨k1, k2⟩ := k.2 i1
    exact ⟨k1, i2.trans k2⟩
end LogS
end Go.Cib
/-
  A log of which a sector rots, plain: what Open finds, what Read tells.
-/
namespace Go.Cib
open Go Go.RowKit
namespace LogS
theorem Lies.ok {m : Int → Sec} : ∀ {rs : List Rec} {S T : LogS}, S.Ok → Lies m S rs T → T.Ok
  | [], S, T, ok, h => by cases h; exact ok
  | x :: rs, S, T, ok, h => Lies.ok (rs := rs) (ok.took h.1.room h.1.lt) h.2
theorem atOk_far {S : LogS} {place : Nat} {kind : UInt8} (h : S.log ≤ place) : S.atOk place kind = false := by
  unfold atOk
  have : decide (place < S.log) = false := decide_eq_false (by omega)
  rw [this]; simp
theorem Run.baseOk {k h : Nat} {S : LogS} {rs : List Rec} (r : Run k h S rs) : (base S.disk k h).Ok := by
  have hs := r.snd
  have := hs.lay.log3; have := hs.lay.log4; have := hs.lay.pages1; have := hs.lay.pages2
  have hk := r.log; have hp := r.pages; have hsz := hs.size
  exact ⟨by show 3 ≤ k; omega, by show k ≤ 4000; omega, by show 1 ≤ h; omega, by show h ≤ 16384; omega, by show 2 + k + h = S.disk.lasts.length; omega, Nat.zero_le _, Nat.zero_le _, by show 1 < 18446744073709551616; decide, fun i x hx => (by cases hx)⟩
set_option maxHeartbeats 1000000 in
/-- Open finds what was committed ahead of the record of which a sector rots. -/
theorem Run.cut {k h : Nat} {S : LogS} {rs : List Rec} (r : Run k h S rs) {c q : Nat} (hc : c ≤ rs.length) (hq : q < k) (h1 : (upTo (base S.disk k h) (rs.take c)).used ≤ q) (h2 : c < rs.length → q < (upTo (base S.disk k h) (rs.take (c + 1))).used)
    {t : Sec} (ht : q < S.used → reads t = none) {D : DiskS} (hD : D.Calm) (hw : D.waits = fun _ => none) (hl : D.lasts.length = 2 + k + h) (hat : ∀ j : Nat, j < 2 + k + h → D.at_ (j : Int) = if j = 2 + q then t else S.disk.at_ (j : Int)) :
    ∃ T, LogS.opens D = (0, some T, T.disk) ∧ Sound false T (nowR (rs.take c)) ∧ T.pages = h := by
  have hs := r.snd
  have hlay := hs.lay
  have hk := r.log; have hp := r.pages; have hg := r.gen
  obtain ⟨l1, l2⟩ := r.lies.take c
  obtain ⟨e1, e2, e3, e4, _, _⟩ := upTo_keep (rs.take c) (base S.disk k h)
  have hov := fun p => upTo_over (rs.take c) (base S.disk k h) (fun _ => Arr.zero) p (fun x hx => by cases hx)
  obtain ⟨V, hV⟩ : ∃ V, upTo (base S.disk k h) (rs.take c) = V := ⟨_, rfl⟩
  rw [hV] at l1 l2 h1 e1 e2 e3 e4
  simp only [hV] at hov
  have vk : V.log = k := e1
  have vp : V.pages = h := e2
  have vg : V.gen = 1 := e3
  have vd : V.dead = false := e4
  have vok : V.Ok := l1.ok r.baseOk
  have lowD : ∀ p, p < V.used → D.at_ ((2 + p : Nat) : Int) = S.disk.at_ ((2 + p : Nat) : Int) := fun p hp => by
    rw [hat _ (by omega), if_neg (by omega)]
  have l1D : Lies D.at_ (base D k h) (rs.take c) (V.on D) := (l1.congr (m' := D.at_) lowD).on D
  obtain ⟨U, hU⟩ : ∃ U, V.on D = U := ⟨_, rfl⟩
  rw [hU] at l1D
  have uk : U.log = k := by rw [← hU]; exact vk
  have up : U.pages = h := by rw [← hU]; exact vp
  have ug : U.gen = 1 := by rw [← hU]; exact vg
  have ud : U.dead = false := by rw [← hU]; exact vd
  have uu : U.used = V.used := by rw [← hU]; rfl
  have ur : U.records = V.records := by rw [← hU]; rfl
  have uo : U.over = V.over := by rw [← hU]; rfl
  have uD : U.disk = D := by rw [← hU]; rfl
  have hhead : U.headF = S.headF := by unfold headF; rw [ug, uk, up, hg, hk, hp]
  have lay : Lay false D.at_ U (nowR (rs.take c)) := by
    refine ⟨by rw [uk, ← hk]; exact hlay.log3, by rw [uk, ← hk]; exact hlay.log4, by rw [up, ← hp]; exact hlay.pages1, by rw [up, ← hp]; exact hlay.pages2, by rw [uu, uk]; omega, by rw [ur, uu]; exact vok.records, ?_, by rw [ug]; decide, by rw [ug]; decide, ?_, ?_, ?_, fun hz => (by cases hz), fun hz => (by cases hz), fun p hpp ho => ?_, fun p _ x hx => ?_⟩
    · rw [uo, up, ← vp]; exact vok.over
    · rw [ug, hhead]
      have := hlay.head
      rw [hg] at this
      rw [hat _ (by omega), if_neg (by omega)]
      exact this
    · rw [ug]
      have := hlay.other
      rw [hg] at this
      rw [hat _ (by omega), if_neg (by omega)]
      exact this
    · refine ⟨rs.take c, ?_⟩
      have b1 : ({ U.cleared with dead := false } : LogS) = base D k h := by
        unfold cleared base; rw [uk, up, ug, uD]
      have b2 : ({ U with dead := false } : LogS) = U := by
        have := ud
        cases U
        simp only at this
        subst this
        rfl
      rw [b1, b2]; exact l1D
    · rw [up] at hpp
      rw [uo] at ho
      obtain ⟨_, o2⟩ := (hov p).2 ho
      refine ⟨base S.disk k h, (by show 1 < 18446744073709551616; decide), ?_⟩
      rw [uk, hat _ (by omega), if_neg (by omega), r.home p hpp]
      have : nowR (rs.take c) p = Arr.zero := o2
      rw [this]
    · rw [uo] at hx
      exact (hov p).1 x hx
  have gS := l2.grow
  have stop : U.record = none := by
    unfold record
    rw [if_neg]
    rintro ⟨c1, c2, c3, c4, c5, c6, c7, _⟩
    have dAt : ∀ p, p < k → U.disk.at_ ((2 + p : Nat) : Int) = if p = q then t else S.disk.at_ ((2 + p : Nat) : Int) := fun p hp => by
      rw [uD, hat _ (by omega)]
      by_cases e : p = q
      · rw [if_pos (by omega), if_pos e]
      · rw [if_neg (by omega), if_neg e]
    by_cases hcl : c < rs.length
    · have hq2 := h2 hcl
      obtain ⟨ws, hws⟩ : ∃ ws, rs[c]? = some ws := ⟨_, List.getElem?_eq_getElem hcl⟩
      have hdrop : rs.drop c = ws :: rs.drop (c + 1) := by
        rw [List.drop_eq_getElem_cons hcl]
        congr 1
        exact Option.some.inj ((List.getElem?_eq_getElem hcl).symm.trans hws)
      rw [hdrop] at l2
      have hr := l2.1
      have hg2 := (Lies.grow (rs := rs.drop (c + 1)) l2.2).1
      have hnext : upTo (base S.disk k h) (rs.take (c + 1)) = V.took ws := by
        rw [List.take_add_one, hws]
        unfold upTo at hV ⊢
        rw [List.foldl_append, hV]; rfl
      rw [hnext] at hq2
      have eu : (V.took ws).used = V.used + ws.length + 2 := rfl
      rw [eu] at hq2 hg2
      have hread := ht (by omega)
      have hrm := hr.room
      rw [vk] at hrm
      by_cases q0 : q = V.used
      · rw [atOk_none (by rw [uu, dAt _ (by omega), if_pos q0.symm]; exact hread)] at c1
        cases c1
      · have hn2 := hr.n2
        have hrec : V.records < 18446744073709551616 := by have := vok.records; have := vok.used; have := vok.log4; omega
        have okf : (V.rec_ (frame2 (ws.map (·.1)))).Ok := ⟨by show V.gen < _; rw [vg]; decide, hrec, by show (ws.map (·.1)).length < _; rw [List.length_map]; omega⟩
        have ef : U.atF U.used = V.rec_ (frame2 (ws.map (·.1))) := by
          refine atF_of (by rw [uu, uk]; omega) ?_ okf
          rw [uu, dAt _ (by omega), if_neg (fun h => q0 h.symm)]
          exact hr.a2
        have ei : (U.atF U.used).idx = ws.length := by rw [ef]; show (ws.map (·.1)).length = _; rw [List.length_map]
        by_cases qe : q = V.used + 1 + ws.length
        · rw [atOk_none (by rw [ei, uu, dAt _ (by omega), if_pos qe.symm]; exact hread)] at c7
          cases c7
        · have := (c6 (q - V.used - 1) (by rw [ei]; omega)).1
          rw [atOk_none (by rw [uu, dAt _ (by omega), if_pos (by omega)]; exact hread)] at this
          cases this
    · have hce : c = rs.length := by omega
      have hVS : V = S := by
        rw [hce, List.take_length] at hV
        rw [← hV]; exact (r.lies.eq).symm
      rw [hVS] at uu h1
      by_cases q0 : q = S.used
      · by_cases hf : U.used + 1 + (U.atF U.used).idx < k
        · rw [atOk_none (by rw [dAt _ hf, if_neg (by omega), r.free _ (by omega) hf]; exact reads_zero)] at c7
          cases c7
        · rw [atOk_far (by omega)] at c7
          cases c7
      · rw [atOk_none (by rw [uu, dAt _ (by omega), if_neg (fun h => q0 h.symm), r.free _ (Nat.le_refl _) (by omega)]; exact reads_zero)] at c1
        cases c1
  have sU : Sound false U (nowR (rs.take c)) := ⟨by rw [uD]; exact lay, by rw [uD]; exact hD.ok, by rw [uD]; exact hw, by rw [uD]; exact hD.dead, ud, by rw [uk, up, uD, hl]⟩
  have hg1 : U.gen + 1 < 18446744073709551616 := by rw [ug]; decide
  rcases sU.checkpoint hg1 with ⟨a1, a2, _, a4, _, _, _, _⟩ | ⟨_, _, _, _, a5, _⟩
  · rcases sU.opens stop hg1 with ⟨b1, _⟩ | ⟨_, b2⟩
    · rw [uD] at b1
      exact ⟨_, b1, a2, a4.trans up⟩
    · omega
  · rw [uD] at a5
    exact absurd hD.armed a5
end LogS
end Go.Cib
/-
  A log of which a sector rots, plain: reads of a rotten home; which pages were touched.
-/
namespace Go.Cib
open Go Go.RowKit
namespace LogS
def usedR (rs : List Rec) : Nat := rs.foldl (fun u r => u + r.length + 2) 0
theorem usedR_snoc (rs : List Rec) (r : Rec) : usedR (rs ++ [r]) = usedR rs + r.length + 2 := by unfold usedR; rw [List.foldl_append]; rfl
theorem upTo_used (rs : List Rec) : ∀ S : LogS, (upTo S rs).used = rs.foldl (fun u r => u + r.length + 2) S.used := by
  induction rs with
  | nil => exact fun _ => rfl
  | cons r rs ih => intro S; exact ih (S.took r)
theorem used_upTo (D : DiskS) (k h : Nat) (rs : List Rec) : (upTo (base D k h) rs).used = usedR rs := upTo_used rs (base D k h)
theorem Run.used {k h : Nat} {S : LogS} {rs : List Rec} (r : Run k h S rs) : S.used = usedR rs := by
  have := r.lies.eq
  rw [this, used_upTo]
theorem Lies.frame {m : Int → Sec} : ∀ {rs : List Rec} {S T : LogS}, S.Ok → Lies m S rs T → ∀ p, S.used ≤ p → p < T.used → ∃ f : FrameV, reads (m ((2 + p : Nat) : Int)) = some f
  | [], S, T, _, h, p, h1, h2 => by cases h; omega
  | x :: rs, S, T, ok, h, p, h1, h2 => by
    have hr := h.1
    have hrec : S.records < 18446744073709551616 := by have := ok.records; have := ok.used; have := ok.log4; omega
    have hn2 := hr.n2
    by_cases e : S.used + x.length + 2 ≤ p
    · exact Lies.frame (rs := rs) (ok.took hr.room hr.lt) h.2 p e h2
    · by_cases e0 : p = S.used
      · subst e0
        exact ⟨_, by rw [hr.a2]; exact reads_sector ⟨ok.gen, hrec, by show (x.map (·.1)).length < _; rw [List.length_map]; omega⟩⟩
      · by_cases e1 : p = S.used + 1 + x.length
        · refine ⟨S.rec_ (frame4 x.length), ?_⟩
          rw [e1, show 2 + (S.used + 1 + x.length) = 3 + S.used + x.length by omega, hr.a4]
          exact reads_sector ⟨ok.gen, hrec, by show x.length < _; omega⟩
        · have hk : p - S.used - 1 < x.length := by omega
          refine ⟨S.rec_ (frame3 (p - S.used - 1) (x[p - S.used - 1]).2), ?_⟩
          have := hr.a3 (p - S.used - 1) _ (List.getElem?_eq_getElem hk)
          rw [show 2 + p = 3 + S.used + (p - S.used - 1) by omega, this]
          exact reads_sector ⟨ok.gen, hrec, by show p - S.used - 1 < _; omega⟩
theorem Run.frame {k h : Nat} {S : LogS} {rs : List Rec} (r : Run k h S rs) {p : Nat} (hp : p < S.used) : ∃ f : FrameV, reads (S.disk.at_ ((2 + p : Nat) : Int)) = some f :=
  Lies.frame r.baseOk r.lies p (Nat.zero_le _) hp
theorem Run.homeF {k h : Nat} {S : LogS} {rs : List Rec} (r : Run k h S rs) {p : Nat} (hp : p < h) : ∃ f : FrameV, reads (S.disk.at_ ((2 + k + p : Nat) : Int)) = some f := by
  have h2 := r.snd.lay.pages2
  have hpp := r.pages
  exact ⟨_, by rw [r.home p hp]; exact reads_sector ⟨by show 1 < 18446744073709551616; decide, by show (0 : Nat) < _; omega, by show p < _; omega⟩⟩
/-- What is read where a home was overwritten. -/
theorem Run.read_rot {k h : Nat} {S : LogS} {rs : List Rec} (r : Run k h S rs) {p : Nat} (hp : p < h) {t : Sec} (ht : reads t = none) {D : DiskS} (hD : D.Calm) (hl : D.lasts.length = 2 + k + h) (hat : D.at_ ((2 + k + p : Nat) : Int) = t) :
    ({ S with disk := D } : LogS).read (p : Int) = (if S.over (p : Int) = none then (Arr.zero, 81) else (nowR rs p, 0), { S with disk := D }) := by
  have hs := r.snd
  have hk := r.log; have hpp := r.pages
  have hrd : D.read (2 + S.log + p) = (t, 0) := by
    have := hD.read (i := ((2 + k + p : Nat) : Int)) (by omega) (by omega)
    rw [hat] at this
    rw [hk]
    exact this
  unfold LogS.read
  rw [if_neg (by show ¬ S.dead = true; simp [hs.live]), if_neg (by show ¬ ((p : Int) < 0 ∨ (S.pages : Int) ≤ p); omega)]
  cases ho : S.over (p : Int) with
  | some x =>
    have := hs.lay.over p (by omega) x ho
    show (((x, 0) : Page × Int), _) = _
    rw [if_neg (by simp), this]
  | none =>
    simp only
    rw [if_pos trivial]
    show (if (D.read (2 + S.log + p)).2 ≠ 0 then _ else _) = _
    rw [hrd, if_neg (by simp)]
    show (pageOf (p : Int).toNat t, _) = _
    rw [pageOf_none ht]
theorem overs_none (ws : Rec) : ∀ (o : Int → Option Page) (p : Nat), overs o ws (p : Int) = none ↔ o (p : Int) = none ∧ p ∉ ws.map (·.1) := by
  induction ws with
  | nil => exact fun o p => ⟨fun h => ⟨h, by simp⟩, fun h => h.1⟩
  | cons q ws ih =>
    intro o p
    have := ih (fun i => if i = (q.1 : Int) then some q.2 else o i) p
    show overs (fun i => if i = (q.1 : Int) then some q.2 else o i) ws (p : Int) = none ↔ _
    rw [this]
    simp only [List.map_cons, List.mem_cons, not_or]
    by_cases e : p = q.1
    · subst e; simp
    · have e2 : ¬ ((p : Int) = (q.1 : Int)) := by omega
      simp [e, e2]
theorem upTo_none (rs : List Rec) : ∀ (S : LogS) (p : Nat), (upTo S rs).over (p : Int) = none ↔ S.over (p : Int) = none ∧ ∀ ws ∈ rs, p ∉ ws.map (·.1) := by
  induction rs with
  | nil => exact fun S p => ⟨fun h => ⟨h, by simp⟩, fun h => h.1⟩
  | cons r rs ih =>
    intro S p
    have := ih (S.took r) p
    show (upTo (S.took r) rs).over (p : Int) = none ↔ _
    rw [this]
    show overs S.over r (p : Int) = none ∧ _ ↔ _
    rw [overs_none]
    simp only [List.mem_cons, forall_eq_or_imp]
    exact ⟨fun ⟨⟨a, b⟩, c⟩ => ⟨a, b, c⟩, fun ⟨a, b, c⟩ => ⟨⟨a, b⟩, c⟩⟩
theorem Run.over_none {k h : Nat} {S : LogS} {rs : List Rec} (r : Run k h S rs) (p : Nat) : S.over (p : Int) = none ↔ ∀ ws ∈ rs, p ∉ ws.map (·.1) := by
  have e := r.lies.eq
  have := upTo_none rs (base S.disk k h) p
  rw [← e] at this
  rw [this]
  exact ⟨fun h => h.2, fun h => ⟨rfl, h⟩⟩
/-- A sector that is written and flushed. -/
theorem Run.turn {k h : Nat} {S : LogS} {rs : List Rec} (r : Run k h S rs) {j : Nat} (hj : j < 2 + k + h) (t : Sec) :
    S.disk.read (j : Int) = (S.disk.at_ (j : Int), 0) ∧ S.disk.write (j : Int) t = (0, S.disk.put (j : Int) t) ∧ (S.disk.put (j : Int) t).flush = (0, (S.disk.put (j : Int) t).counted.flushed) ∧
    ((S.disk.put (j : Int) t).counted.flushed).Calm ∧ ((S.disk.put (j : Int) t).counted.flushed).waits = (fun _ => none) ∧ ((S.disk.put (j : Int) t).counted.flushed).lasts.length = 2 + k + h ∧
    ∀ i : Nat, i < 2 + k + h → ((S.disk.put (j : Int) t).counted.flushed).at_ (i : Int) = if i = j then t else S.disk.at_ (i : Int) := by
  have hs := r.snd
  have hk := r.log; have hpp := r.pages; have hsz := hs.size
  have hc := hs.calm r.armed
  have hc2 := hc.put (i := (j : Int)) (by omega) (by omega) t
  refine ⟨hc.read (by omega) (by omega), hc.write (by omega) (by omega) t, hc2.flush, hc2.flushed, rfl, ?_, fun i hi => ?_⟩
  · show (DiskS.lay S.disk.lasts _).length = _
    rw [DiskS.length_lay]; omega
  · have hll : (S.disk.put (j : Int) t).lasts.length = S.disk.lasts.length := rfl
    rw [DiskS.at_flushed _ (by omega) (by omega), DiskS.at_put]
    by_cases e : i = j
    · rw [if_pos (by omega), if_pos e]
    · rw [if_neg (by omega), if_neg e]
/-- The log goes on over a disk that reads the same. -/
theorem Run.same {k h : Nat} {S : LogS} {rs : List Rec} (r : Run k h S rs) {D : DiskS} (hD : D.Calm) (hw : D.waits = fun _ => none) (hl : D.lasts.length = 2 + k + h) (hat : ∀ i : Nat, i < 2 + k + h → D.at_ (i : Int) = S.disk.at_ (i : Int)) : Sound true { S with disk := D } (nowR rs) := by
  have hs := r.snd
  have hk := r.log; have hpp := r.pages
  refine ⟨(hs.lay.congr fun j hj => hat j (by omega)).on D, hD.ok, hw, hD.dead, hs.live, ?_⟩
  show 2 + S.log + S.pages = D.lasts.length
  omega
end LogS
end Go.Cib
/-
  Does one of the first so many Commits write that page? The walk of ciboriumlaw08.touched.
-/
namespace Go.Proofs.Ythbaipljlbddcaa
open Go.RowKit Go.Cib
/-- An op that is committed. -/
def GoodOp (k h : Nat) (o : Op8V) : Prop := o.what = 1 ∧ o.imgs ≠ [] ∧ FitsP o.imgs (h : Int) (k : Int)
instance (k h : Nat) (o : Op8V) : Decidable (GoodOp k h o) := by unfold GoodOp; infer_instance
def touchB (k h : Nat) (p : Int) : List Op8V → Nat → Bool
  | [], _ => false
  | _ :: _, 0 => false
  | o :: os, m + 1 => if GoodOp k h o then (if p ∈ o.imgs.map (·.1) then true else touchB k h p os m) else touchB k h p os (m + 1)
theorem touchB_zero (k h : Nat) (p : Int) (os : List Op8V) : touchB k h p os 0 = false := by cases os <;> rfl
theorem touchB_drop {k h : Nat} {p : Int} {os : List Op8V} {j : Nat} {o : Op8V} (hx : os[j]? = some o) (m : Nat) :
    touchB k h p (os.drop j) (m + 1) = if GoodOp k h o then (if p ∈ o.imgs.map (·.1) then true else touchB k h p (os.drop (j + 1)) m) else touchB k h p (os.drop (j + 1)) (m + 1) := by
  have hj := (List.getElem?_eq_some_iff.1 hx).1
  rw [List.drop_eq_getElem_cons hj, show os[j] = o from (List.getElem?_eq_some_iff.1 hx).2]
  rfl
set_option maxRecDepth 20000 in
set_option maxHeartbeats 2000000 in
theorem touched_any {w : World} {a : Option Addr} {cap : Nat} {os : List Op8V} (ho : Ops8At w a os) (hlen : os.length ≤ 9223372036854775807) (p : Int) (many : Nat) (hmany : many ≤ 1000) (k h : Nat) (hk : k ≤ 1000) :
    Calls Try.prog 22 #[.slice a os.length cap, .int .i64 p, .int .i64 many, .int .i64 h, .int .i64 k] w fun e w' => e = .returned (.bool (touchB k h p os many)) ∧ Tch [] w w' := by
  obtain ⟨m, hm⟩ : ∃ m, os.length = m := ⟨_, rfl⟩
  have HM := Lib.hid hm
  have HO := Lib.hid ho
  rw [hm] at hlen ⊢
  clear ho hm
  go_enter Try.func22, Try.ntmps22
  go_wp2_with fail
  go_loopg [2, 11, 12, 13] m (fun q mv i _ _ wx => ∃ j n, OnAt m i q j ∧ mv = .int .i64 (n : Nat) ∧ n ≤ many ∧ Tch [] w wx ∧ touchB k h p os many = touchB k h p (os.drop j) n)
  case atStart => exact ⟨0, many, ⟨Nat.zero_le _, rfl, rfl⟩, rfl, Nat.le_refl _, Tch.refl _ _, rfl⟩
  case round =>
    obtain ⟨j, n, ⟨hj, rfl, rfl⟩, rfl, hn, ht, he⟩ := hrel
    have TW := Lib.hid ht
    have HE := Lib.hid he
    clear ht he
    by_cases hjn : j < m ∧ 0 < n
    · obtain ⟨hj1, hn1⟩ := hjn
      obtain ⟨n', rfl⟩ : ∃ n', n = n' + 1 := ⟨n - 1, by omega⟩
      obtain ⟨o, hx⟩ : ∃ o, os[j]? = some o := ⟨_, List.getElem?_eq_getElem (by rw [HM.out]; exact hj1)⟩
      have hstep := touchB_drop (k := k) (h := h) (p := p) hx n'
      rw [← HE.out] at hstep
      have HST := Lib.hid hstep
      obtain ⟨kb, ko, rfl, hop⟩ := HO.out j o hx
      have hop' := hop.later TW.out
      have c0 := hop'.c0
      have c1 := hop'.c1
      have c2 := hop'.c2
      have c3 := hop'.c3
      have HOP := Lib.hid hop
      clear hop hop' hx hstep HE
      go_wp2_with fail
      refine (images8 HOP.out TW.out o.what).mono ?_
      rintro e w6 ⟨t6, ia, icap, rfl, i6, b6⟩
      have T6 := Lib.hid (TW.out.trans t6)
      have I6 := Lib.hid i6
      have LI := imgs_len o
      clear t6 i6 b6 TW c0 c1 c2 c3
      have c0 := (HOP.out.later T6.out).c0
      have FI : Hid (∀ w', Tch [] w6 w' → Calls Try.prog 11 #[.slice ia o.imgs.length icap, .int .i64 h, .int .i64 k] w' fun e w'' => e = .returned (.bool (decide (FitsP o.imgs (h : Int) (k : Int)))) ∧ Tch [] w' w'') := fun w' t => fits_any (I6.out.later t) (by omega) _ _ (by omega) (by omega)
      have skip : ¬ GoodOp k h o → Hid (touchB k h p os many = touchB k h p (os.drop (j + 1)) (n' + 1)) := fun hb => by
        have := HST.out
        rw [if_neg hb] at this
        exact (show touchB k h p os many = _ from this)
      by_cases q1 : o.what = 1
      · by_cases l0 : o.imgs.length = 0
        · have SK := skip (fun hb => hb.2.1 (List.eq_nil_of_length_eq_zero l0))
          clear skip HST
          go_wp2_with fail
          go_roundg (m - (j + 1))
          case measure => omega
          case rel => exact ⟨j + 1, n' + 1, ⟨by omega, by go_num, rfl⟩, rfl, hn, T6.out, SK.out⟩
        · by_cases hf : FitsP o.imgs (h : Int) (k : Int)
          · have good : GoodOp k h o := ⟨q1, fun e => l0 (by rw [e]; rfl), hf⟩
            have hst := HST.out
            rw [if_pos good] at hst
            have HS := Lib.hid hst
            have hfd : decide (FitsP o.imgs (h : Int) (k : Int)) = true := decide_eq_true hf
            obtain ⟨c, hc⟩ : ∃ c, o.imgs.length = c := ⟨_, rfl⟩
            have HC := Lib.hid hc
            rw [hc] at FI l0 LI ⊢
            clear hst skip HST good hf hc
            go_wp2_with (go_at_call 11; refine (FI.out _ (Tch.refl _ _)).mono ?_; rintro e w7 ⟨rfl, t7⟩; rw [hfd]; have T7 := Lib.hid (T6.out.trans t7); have I7 := Lib.hid (I6.out.later t7); clear t7 T6 I6 FI c0)
            go_loopg [13] c (fun q' i wx => ∃ x, OnAt c i q' x ∧ Tch [] w wx ∧ Tch [] w7 wx ∧ p ∉ (o.imgs.take x).map (fun q => q.1))
            case atStart => exact ⟨0, ⟨Nat.zero_le _, rfl, rfl⟩, T7.out, Tch.refl _ _, by simp⟩
            case round =>
              obtain ⟨x, ⟨hxc, rfl, rfl⟩, ht, ht7, hnm⟩ := hrel
              have TX := Lib.hid ht
              have TY := Lib.hid ht7
              have NM := Lib.hid hnm
              clear ht ht7 hnm
              by_cases hxx : x < c
              · obtain ⟨r, hr⟩ : ∃ r, o.imgs[x]? = some r := ⟨_, List.getElem?_eq_getElem (by rw [HC.out]; exact hxx)⟩
                obtain ⟨ib, ic, ie, ifr, rfl, hib, _⟩ := I7.out x _ hr
                have c1 := (I7.out.later TY.out).num hr
                have hmem : r.1 ∈ o.imgs.map (fun q => q.1) := List.mem_map_of_mem (List.mem_of_getElem? hr)
                have htp : (o.imgs.take (x + 1)).map (fun q => q.1) = (o.imgs.take x).map (fun q => q.1) ++ [r.1] := by rw [List.take_add_one, hr, List.map_append]; rfl
                have MEM := Lib.hid hmem
                have HTP := Lib.hid htp
                clear hr hmem htp hib
                by_cases he : r.1 = p
                · have hv := HS.out
                  rw [if_pos (show p ∈ o.imgs.map (fun q => q.1) from he ▸ MEM.out)] at hv
                  have HV := Lib.hid hv
                  clear hv
                  go_wp2_with fail
                  go_ret
                  rw [HV.out]
                  exact ⟨rfl, TX.out⟩
                · go_wp2_with fail
                  go_roundg (c - (x + 1))
                  case measure => omega
                  case rel =>
                    refine ⟨x + 1, ⟨by omega, by go_num, rfl⟩, TX.out, TY.out, ?_⟩
                    rw [HTP.out]
                    intro hx
                    rcases List.mem_append.1 hx with hx | hx
                    · exact NM.out hx
                    · exact he (List.mem_singleton.1 hx).symm
              · have hfull : o.imgs.take x = o.imgs := List.take_of_length_le (by rw [HC.out]; omega)
                have hv := HS.out
                have hno : p ∉ o.imgs.map (fun q => q.1) := by have := NM.out; rw [hfull] at this; exact this
                rw [if_neg hno] at hv
                have HV := Lib.hid hv
                clear hv hno hfull
                go_wp2_with fail
                go_roundg (m - (j + 1))
                case measure => omega
                case rel => exact ⟨j + 1, n', ⟨by omega, by go_num, rfl⟩, by go_num, by omega, TX.out, HV.out⟩
          · have SK := skip (fun hb => hf hb.2.2)
            have hfd : decide (FitsP o.imgs (h : Int) (k : Int)) = false := decide_eq_false hf
            clear skip HST hf
            go_wp2_with (go_at_call 11; refine (FI.out _ (Tch.refl _ _)).mono ?_; rintro e w7 ⟨rfl, t7⟩; rw [hfd]; have T7 := Lib.hid (T6.out.trans t7); clear t7)
            go_roundg (m - (j + 1))
            case measure => omega
            case rel => exact ⟨j + 1, n' + 1, ⟨by omega, by go_num, rfl⟩, rfl, hn, T7.out, SK.out⟩
      · have SK := skip (fun hb => q1 hb.1)
        clear skip HST
        go_wp2_with fail
        go_roundg (m - (j + 1))
        case measure => omega
        case rel => exact ⟨j + 1, n' + 1, ⟨by omega, by go_num, rfl⟩, rfl, hn, T6.out, SK.out⟩
    · have E : Hid (touchB k h p os many = false) := by
        have he := HE.out
        by_cases h0 : n = 0
        · subst h0; rw [touchB_zero] at he; exact (show _ = _ from he)
        · have hd : os.drop j = [] := List.drop_eq_nil_of_le (by have := HM.out; omega)
          rw [hd] at he
          exact (show touchB k h p os many = false from he)
      clear HE
      go_wp2_with fail
      all_goals
        go_ret
        rw [E.out]
        exact ⟨rfl, TW.out⟩
end Go.Proofs.Ythbaipljlbddcaa
/-
  What WalCuts keeps in memory: a log, the pages behind each Commit, where each record ends.
-/
namespace Go.Cib
open Go Go.RowKit
/-- 'append(l, ..)' of a row of values in memory, of up to 64 bytes each. -/
theorem wc_append_vals64 {P : Program} {T e : TypeId} {ops : Array Oper} {rest : List Oper} {a : Act} {w : World} {Q : Exit → Act → World → Prop} {dst : Option Tmp} {ty : TypeId} {pos : String} {af : Array Edge} {x y : Operand} {z : Value} {by_ : Nat} (hT : OneT P T e z by_) (hby : by_ ≤ 64) {B : Nat} {v : Value} {l : List Value} (h : OwnVals w B e v l) (hB : B ≤ w.heap.size) {m : List Value} (hl : l.length + m.length ≤ 1000000) {ar : Array Operand} {ts : Array TypeId} (har : ar = #[x, y]) (hts : ts = #[T, T]) (hx : a.eval x = v)
    {ad : Addr} {cap : Nat} (hy : a.eval y = .slice (some ad) m.length cap) (hg : ValsAt w (some ad) m) (hone : ∀ u ∈ m, u.oneCell' = true)
    (h' : ∀ v' w', OwnVals w' B e v' (l ++ m) → Tch v.ownBlock.toList w w' → wpList P ops Q rest (a.put dst v') w') : wpList P ops Q (⟨dst, .call { callee := .builtin .append, args := ar, argTypes := ts }, ty, pos, af, none⟩ :: rest) a w := by
  subst har hts
  obtain ⟨i, h1, h2, h3, h4⟩ := hT.info
  refine wpList_append_own w rfl x y T rfl B e i z 1 by_ hT.und h1 h2 h3 h4 (by rw [hT.one]; rfl) (by decide) v l.length l hx h ad m.length cap m hy (by omega) ?_ hone ?_ ?_ hB ?_
  · intro j u hj
    obtain ⟨b, o, e1, hc⟩ := hg j u hj
    cases e1
    rw [add_mk]; exact hc
  · unfold maxLen; omega
  · have := Nat.mul_le_mul_left (l.length + m.length) hby
    omega
  · intro v' w' hown hgr _
    refine h' v' w' ?_ (Tch.of_grown hgr (fun k hk => by rw [hk]; simp))
    unfold OwnVals
    rw [List.length_append]
    exact hown
theorem ownVals_single {w : World} {B b : Nat} {e : TypeId} {u : Value} (h : w.heap[b]? = some (.cells #[u] e)) (hB : B ≤ b) : OwnVals w B e (.slice (some ⟨b, 0, none⟩) 1 1) [u] :=
  ⟨rfl, .inr ⟨b, 1, #[u], rfl, hB, h, Nat.le_refl _, by unfold maxLen; decide, rfl, rfl⟩⟩
end Go.Cib
namespace Go.Proofs.Ythbaipljlbddcaa
open Go.RowKit Go.Cib
open BegunP
abbrev St := Nat × Nat × List Page
def stV (h : Nat) (q : St) : Value := .slice (some ⟨q.1, 0, none⟩) h q.2.1
def stX (q : St) : Nat × List Page := (q.1, q.2.2)

def endsR (rs : List LogS.Rec) : List Value := (List.range (rs.length + 1)).map fun i => .int .i64 (LogS.usedR (rs.take i))
theorem length_endsR (rs : List LogS.Rec) : (endsR rs).length = rs.length + 1 := by unfold endsR; simp
theorem endsR_get {rs : List LogS.Rec} {i : Nat} (hi : i ≤ rs.length) : (endsR rs)[i]? = some (.int .i64 (LogS.usedR (rs.take i))) := by
  unfold endsR
  rw [List.getElem?_map, List.getElem?_range (by omega)]; rfl
theorem endsR_snoc (rs : List LogS.Rec) (r : LogS.Rec) : endsR (rs ++ [r]) = endsR rs ++ [.int .i64 (LogS.usedR (rs ++ [r]))] := by
  unfold endsR
  rw [List.length_append, List.length_singleton, List.range_succ, List.map_append]
  congr 1
  · apply List.map_congr_left
    intro i hi
    have := List.mem_range.1 hi
    rw [List.take_append_of_le_length (by omega)]
  · simp only [List.map_cons, List.map_nil]
    rw [List.take_of_length_le (by rw [List.length_append, List.length_singleton]; exact Nat.le_refl _)]
theorem ownVals_ne {w : World} {B : Nat} {e : TypeId} {v : Value} {l : List Value} {u : Value} (h : OwnVals w B e v l) (hl : l[0]? = some u) {b : Nat} {x : Value} (hx : w.cell? ⟨b, 0, none⟩ = some x) (hne : x ≠ u) : ∀ g, v.ownBlock = some g → b ≠ g := by
  intro g hg hb
  subst hb
  rcases h.shape with ⟨rfl, rfl⟩ | ⟨g', cap, cur, rfl, _, hgc, _, _, _, htk⟩
  · simp at hl
  · have e1 : g' = b := by simpa [Value.ownBlock] using hg
    subst e1
    rw [cell_of_row w g' 0 _ _ _ hgc] at hx
    have hjl := (List.getElem?_eq_some_iff.1 hl).1
    have h1 : (cur.toList.take l.length)[0]? = l[0]? := by rw [htk]
    rw [List.getElem?_take, if_pos hjl, Array.getElem?_toList, hl, hx] at h1
    exact hne (Option.some.inj h1)
theorem secsIn_first {w : World} {b : Nat} {ls : List Page} (h : SecsIn w b ls) (hn : ls ≠ []) : ∃ x : UInt8, w.cell? ⟨b, 0, none⟩ = some (bv x) := by
  obtain ⟨cur, e, h1, h2, h3⟩ := h
  have hpos : 0 < ls.length := List.length_pos_iff.2 hn
  have hx : ls[0]? = some ls[0] := List.getElem?_eq_getElem hpos
  have h4 := secsA_extract (n := 480) hx
  have h5 : ((secsA ls).extract (0 * 480) (0 * 480 + 480))[0]? = (secA ls[0])[0]? := by rw [h4]
  have hm : 480 ≤ ls.length * 480 := Nat.le_mul_of_pos_left _ hpos
  have hz := size_secsA ls
  rw [Array.getElem?_extract, if_pos (by omega)] at h5
  rw [← h3, Array.getElem?_extract] at h5
  rw [if_pos (show 0 * 480 + 0 < min (ls.length * 480) cur.size - 0 by omega)] at h5
  simp only [Nat.zero_mul, Nat.add_zero] at h5
  refine ⟨(ls[0]).l.getD 0 0, ?_⟩
  rw [cell_of_row w b 0 _ _ _ h1, h5]
  have hl : 0 < (ls[0]).l.length := by rw [(ls[0]).h]; decide
  show (bytesA _)[0]? = _
  rw [bytesA_get, List.getElem?_eq_getElem hl, List.getD_eq_getElem?_getD, List.getElem?_eq_getElem hl]
  rfl
/-- What lies in memory. -/
structure CutM (w0 w : World) (B0 g d L M V : Nat) (bx : Nat × Obj) (S : LogS) (sts : List St) (sv : Value) (sl : List Value) (ev : Value) (el : List Value) : Prop where
  solo : Solo w0 w g d L M V S (sts.map stX) [bx]
  blk : ∀ x ∈ [g, d, L, M, V], x < B0
  bxlt : bx.1 < B0
  lo : w0.heap.size ≤ B0
  hi : B0 ≤ w.heap.size
  own : OwnVals w B0 34 sv sl
  ends : OwnVals w B0 3 ev el
  pg : ∀ q ∈ sts, B0 ≤ q.1 ∧ q.2.2 ≠ []
  s0 : ∃ q : St, ∃ h, sl[0]? = some (stV h q)
  e0 : ∃ n : Int, el[0]? = some (.int .i64 n)
section
variable {w0 w w' : World} {B0 g d L M V : Nat} {bx : Nat × Obj} {S S' : LogS} {sts : List St} {sv ev : Value} {sl el : List Value}
theorem ownBlk {v : Value} {B : Nat} {e : TypeId} {l : List Value} (h : OwnVals w B e v l) : ∀ x, v.ownBlock = some x → B ≤ x := fun x hx => (h.lt x (by rw [hx]; simp)).1
theorem CutM.same (h : CutM w0 w B0 g d L M V bx S sts sv sl ev el) (ht : Tch [] w w') : CutM w0 w' B0 g d L M V bx S sts sv sl ev el :=
  ⟨h.solo.same ht, h.blk, h.bxlt, h.lo, Nat.le_trans h.hi ht.size, h.own.kept ht (by simp), h.ends.kept ht (by simp), h.pg, h.s0, h.e0⟩
theorem CutM.step (h : CutM w0 w B0 g d L M V bx S sts sv sl ev el) (hA : LogAt w' g d L M V S') (ht : Tch [g, d, L, M, V] w w') : CutM w0 w' B0 g d L M V bx S' sts sv sl ev el :=
  ⟨h.solo.step hA ht, h.blk, h.bxlt, h.lo, Nat.le_trans h.hi ht.size, h.own.kept ht (fun x hx hm => by have := ownBlk h.own x hx; have := h.blk x hm; omega), h.ends.kept ht (fun x hx hm => by have := ownBlk h.ends x hx; have := h.blk x hm; omega), h.pg, h.s0, h.e0⟩
theorem CutM.disk (h : CutM w0 w B0 g d L M V bx S sts sv sl ev el) {D : DiskS} (hD : DiskAt w' d L M D) (ht : Tch [d, L, M] w w') : CutM w0 w' B0 g d L M V bx { S with disk := D } sts sv sl ev el :=
  h.step (h.solo.log.disk hD ht) (ht.mono (by simp))
/-- Pages more. -/
theorem CutM.pages (h : CutM w0 w B0 g d L M V bx S sts sv sl ev el) (ht : Tch [] w w') {b cap : Nat} {ls : List Page} (hb : w.heap.size ≤ b) (hs : SecsIn w' b ls) (hn : ls ≠ []) : CutM w0 w' B0 g d L M V bx S (sts ++ [(b, cap, ls)]) sv sl ev el := by
  have h2 := h.same ht
  refine ⟨(h.solo.pages ht hb hs).sub (fun q hq => ?_) (fun q hq => hq), h.blk, h.bxlt, h.lo, h2.hi, h2.own, h2.ends, fun q hq => ?_, h.s0, h.e0⟩
  · rw [List.map_append] at hq
    rcases List.mem_append.1 hq with hq | hq
    · exact List.mem_cons_of_mem _ hq
    · simp only [List.map_cons, List.map_nil, List.mem_singleton] at hq
      rw [hq]; exact List.mem_cons_self ..
  · rcases List.mem_append.1 hq with hq | hq
    · exact h.pg q hq
    · rw [List.mem_singleton.1 hq]; exact ⟨Nat.le_trans h.hi hb, hn⟩
theorem CutM.touchS (h : CutM w0 w B0 g d L M V bx S sts sv sl ev el) {K : List Nat} (ht : Tch K w w') (hK : ∀ x ∈ K, B0 ≤ x) (hp : ∀ q ∈ sts, q.1 ∉ K) : Solo w0 w' g d L M V S (sts.map stX) [bx] := by
  have hs := h.solo
  refine ⟨hs.log.far ht (fun x hx hm => by have := h.blk x hx; have := hK x hm; omega), hs.own, tch_own hs.tch ht (fun x hx => Nat.le_trans h.lo (hK x hx)), fun q hq => ⟨(hs.pgs q hq).1.touch ht ?_, (hs.pgs q hq).2⟩, fun q hq => ⟨ht.heap (hs.box q hq).1 ?_, (hs.box q hq).2⟩⟩
  · obtain ⟨r, hr, rfl⟩ := List.mem_map.1 hq
    exact hp r hr
  · intro hm
    rw [List.mem_singleton.1 hq] at hm
    have := h.bxlt; have := hK _ hm
    omega
/-- One state more is listed. -/
theorem CutM.appS (h : CutM w0 w B0 g d L M V bx S sts sv sl ev el) {sv' : Value} {u : Value} (ho : OwnVals w' B0 34 sv' (sl ++ [u])) (ht : Tch sv.ownBlock.toList w w') : CutM w0 w' B0 g d L M V bx S sts sv' (sl ++ [u]) ev el := by
  have hK : ∀ x ∈ sv.ownBlock.toList, B0 ≤ x := fun x hx => (h.own.lt x hx).1
  obtain ⟨q0, hh, s0⟩ := h.s0
  obtain ⟨n0, e0⟩ := h.e0
  have own1 : ∀ x ∈ sv.ownBlock.toList, sv.ownBlock = some x := fun x hx => by
    cases hs : sv.ownBlock with
    | none => rw [hs] at hx; simp at hx
    | some y => rw [hs] at hx; simp at hx; rw [hx]
  have hp : ∀ q ∈ sts, q.1 ∉ sv.ownBlock.toList := fun q hq hm => by
    obtain ⟨x, hx⟩ := secsIn_first (h.solo.pgs (stX q) (List.mem_map_of_mem hq)).1 (h.pg q hq).2
    exact ownVals_ne h.own s0 hx (by unfold bv stV; simp) q.1 (own1 _ hm) rfl
  have he : ∀ x, ev.ownBlock = some x → x ∉ sv.ownBlock.toList := fun x hx hm => by
    obtain ⟨a, cap, hv, hvals, _⟩ := h.ends.vals
    obtain ⟨b, o, ea, hc⟩ := hvals 0 _ e0
    have hb0 : b = x ∧ o = 0 := by
      rcases h.ends.shape with ⟨hv2, hn⟩ | ⟨g', cap', cur, hv2, _⟩
      · rw [hn] at e0; simp at e0
      · rw [hv2] at hv hx
        injection hv with h1
        rw [ea] at h1
        injection h1 with h1
        injection h1 with h1 h2
        refine ⟨?_, h2.symm⟩
        have : g' = x := by simpa [Value.ownBlock] using hx
        omega
    rw [hb0.1, hb0.2, Nat.add_zero] at hc
    exact ownVals_ne h.own s0 hc (by unfold stV; simp) x (own1 _ hm) rfl
  refine ⟨h.touchS ht hK hp, h.blk, h.bxlt, h.lo, Nat.le_trans h.hi ht.size, ho, h.ends.kept ht he, h.pg, ⟨q0, hh, ?_⟩, ⟨n0, e0⟩⟩
  rw [List.getElem?_append_left (List.getElem?_eq_some_iff.1 s0).1]; exact s0
/-- One end more is listed. -/
theorem CutM.appE (h : CutM w0 w B0 g d L M V bx S sts sv sl ev el) {ev' : Value} {u : Value} (ho : OwnVals w' B0 3 ev' (el ++ [u])) (ht : Tch ev.ownBlock.toList w w') : CutM w0 w' B0 g d L M V bx S sts sv sl ev' (el ++ [u]) := by
  have hK : ∀ x ∈ ev.ownBlock.toList, B0 ≤ x := fun x hx => (h.ends.lt x hx).1
  obtain ⟨q0, hh, s0⟩ := h.s0
  obtain ⟨n0, e0⟩ := h.e0
  have own1 : ∀ x ∈ ev.ownBlock.toList, ev.ownBlock = some x := fun x hx => by
    cases hs : ev.ownBlock with
    | none => rw [hs] at hx; simp at hx
    | some y => rw [hs] at hx; simp at hx; rw [hx]
  have hp : ∀ q ∈ sts, q.1 ∉ ev.ownBlock.toList := fun q hq hm => by
    obtain ⟨x, hx⟩ := secsIn_first (h.solo.pgs (stX q) (List.mem_map_of_mem hq)).1 (h.pg q hq).2
    exact ownVals_ne h.ends e0 hx (by unfold bv; simp) q.1 (own1 _ hm) rfl
  have he : ∀ x, sv.ownBlock = some x → x ∉ ev.ownBlock.toList := fun x hx hm => by
    obtain ⟨a, cap, hv, hvals, _⟩ := h.own.vals
    obtain ⟨b, o, ea, hc⟩ := hvals 0 _ s0
    have hb0 : b = x ∧ o = 0 := by
      rcases h.own.shape with ⟨hv2, hn⟩ | ⟨g', cap', cur, hv2, _⟩
      · rw [hn] at s0; simp at s0
      · rw [hv2] at hv hx
        injection hv with h1
        rw [ea] at h1
        injection h1 with h1
        injection h1 with h1 h2
        refine ⟨?_, h2.symm⟩
        have : g' = x := by simpa [Value.ownBlock] using hx
        omega
    rw [hb0.1, hb0.2, Nat.add_zero] at hc
    exact ownVals_ne h.ends e0 hc (by unfold stV; simp) x (own1 _ hm) rfl
  refine ⟨h.touchS ht hK hp, h.blk, h.bxlt, h.lo, Nat.le_trans h.hi ht.size, h.own.kept ht he, ho, h.pg, ⟨q0, hh, s0⟩, ⟨n0, ?_⟩⟩
  rw [List.getElem?_append_left (List.getElem?_eq_some_iff.1 e0).1]; exact e0
end
theorem statesT : OneT Try.prog 35 34 (.slice none 0 0) 24 := .of (by kernel_rfl) (by kernel_rfl) rfl
theorem endsT : OneT Try.prog 36 3 (.int .i64 0) 8 := .of (by kernel_rfl) (by kernel_rfl) rfl
theorem valsAt_one {w : World} {e : TypeId} {u : Value} : ValsAt (w.alloc (.cells #[u] e)) (some ⟨w.heap.size, 0, none⟩) [u] := by
  intro j v hj
  match j, hj with
  | 0, hj =>
    cases hj
    refine ⟨w.heap.size, 0, rfl, ?_⟩
    rw [cell_of_row _ w.heap.size 0 _ _ _ (heap_alloc_new _ _)]
    rfl
  | n + 1, hj => simp at hj
section
variable {w0 w : World} {B0 g d L M V : Nat} {bx : Nat × Obj} {S : LogS} {sts : List St} {sv ev : Value} {sl el : List Value} {n sg sc : Nat} {ops : Array Oper} {rest : List Oper} {a : Act} {Q : Exit → Act → World → Prop} {dst : Option Tmp} {ty : TypeId} {pos : String} {af : Array Edge} {x y : Operand}
/-- 'append(states, ..)'. -/
theorem app_states (C : CutM w0 w B0 g d L M V bx S sts (.slice (some ⟨sg, 0, none⟩) (n + 1) sc) sl ev el) (hl : sl.length = n + 1) (hn : n ≤ 100) {u : Value} (hu : u.oneCell' = true) (hx : a.eval x = .slice (some ⟨sg, 0, none⟩) (n + 1) sc) (hy : a.eval y = .slice (some ⟨w.heap.size, 0, none⟩) 1 1)
    (h' : ∀ sg' sc' w', CutM w0 w' B0 g d L M V bx S sts (.slice (some ⟨sg', 0, none⟩) (n + 1 + 1) sc') (sl ++ [u]) ev el → wpList Try.prog ops Q rest (a.put dst (.slice (some ⟨sg', 0, none⟩) (n + 1 + 1) sc')) w') :
    wpList Try.prog ops Q (⟨dst, .call { callee := .builtin .append, args := #[x, y], argTypes := #[35, 35] }, ty, pos, af, none⟩ :: rest) a (w.alloc (.cells #[u] 34)) := by
  have C2 := C.same ((Tch.refl [] w).alloc (.cells #[u] 34))
  refine wc_append_vals64 statesT (by decide) C2.own C2.hi (m := [u]) (by rw [hl]; simp; omega) rfl rfl hx hy valsAt_one (by simpa using hu) (fun v' w' ho ht => ?_)
  have C3 := C2.appS ho ht
  rcases ho.shape with ⟨_, e⟩ | ⟨sg', sc', cur, rfl, _⟩
  · simp at e
  · rw [List.length_append, hl, List.length_singleton] at C3 ⊢
    exact h' sg' sc' w' C3
/-- 'append(ends, ..)'. -/
theorem app_ends (C : CutM w0 w B0 g d L M V bx S sts sv sl (.slice (some ⟨sg, 0, none⟩) (n + 1) sc) el) (hl : el.length = n + 1) (hn : n ≤ 100) {u : Value} (hu : u.oneCell' = true) (hx : a.eval x = .slice (some ⟨sg, 0, none⟩) (n + 1) sc) (hy : a.eval y = .slice (some ⟨w.heap.size, 0, none⟩) 1 1)
    (h' : ∀ sg' sc' w', CutM w0 w' B0 g d L M V bx S sts sv sl (.slice (some ⟨sg', 0, none⟩) (n + 1 + 1) sc') (el ++ [u]) → wpList Try.prog ops Q rest (a.put dst (.slice (some ⟨sg', 0, none⟩) (n + 1 + 1) sc')) w') :
    wpList Try.prog ops Q (⟨dst, .call { callee := .builtin .append, args := #[x, y], argTypes := #[36, 36] }, ty, pos, af, none⟩ :: rest) a (w.alloc (.cells #[u] 3)) := by
  have C2 := C.same ((Tch.refl [] w).alloc (.cells #[u] 3))
  refine wc_append_vals64 endsT (by decide) C2.ends C2.hi (m := [u]) (by rw [hl]; simp; omega) rfl rfl hx hy valsAt_one (by simpa using hu) (fun v' w' ho ht => ?_)
  have C3 := C2.appE ho ht
  rcases ho.shape with ⟨_, e⟩ | ⟨sg', sc', cur, rfl, _⟩
  · simp at e
  · rw [List.length_append, hl, List.length_singleton] at C3 ⊢
    exact h' sg' sc' w' C3
end
end Go.Proofs.Ythbaipljlbddcaa
/-
  A log of which a sector rots: the walk of WalCuts.
-/
namespace Go.Proofs.Ythbaipljlbddcaa
open Go.RowKit Go.Cib
open BegunP
theorem nowOf_zero (h : Nat) : ∀ p, p < h → nowOf (List.replicate h (Arr.zero : Page)) p = Arr.zero := by
  intro p hp
  unfold nowOf
  rw [List.getD_eq_getElem?_getD, List.getElem?_replicate, if_pos hp]; rfl
def StOk (h : Nat) (rs : List LogS.Rec) (sts : List St) : Prop := sts.length = rs.length + 1 ∧ ∀ (i : Nat) (q : St), sts[i]? = some q → q.2.2.length = h ∧ ∀ p, p < h → nowOf q.2.2 p = LogS.nowR (rs.take i) p
def goods (k h : Nat) (os : List Op8V) : List LogS.Rec := (os.filter (fun o => decide (GoodOp k h o))).map fun o => LogS.nats o.imgs
theorem goods_snoc {k h : Nat} {os : List Op8V} {j : Nat} {o : Op8V} (hx : os[j]? = some o) : goods k h (os.take (j + 1)) = if GoodOp k h o then goods k h (os.take j) ++ [LogS.nats o.imgs] else goods k h (os.take j) := by
  rw [List.take_add_one, hx]
  unfold goods
  rw [List.filter_append, List.map_append]
  by_cases hg : GoodOp k h o
  · rw [if_pos hg]; simp [hg]
  · rw [if_neg hg]; simp [hg]
/-- What the first loop leaves. -/
def CutR (w wx : World) (B0 g d L M V : Nat) (bx : Nat × Obj) (k h : Nat) (os : List Op8V) (j : Nat) (sv ev : Value) : Prop :=
  ∃ (rs : List LogS.Rec) (S : LogS) (sts : List St) (sg sc eg ec : Nat), sv = .slice (some ⟨sg, 0, none⟩) (rs.length + 1) sc ∧ ev = .slice (some ⟨eg, 0, none⟩) (rs.length + 1) ec ∧
    CutM w wx B0 g d L M V bx S sts sv (sts.map (stV h)) ev (endsR rs) ∧ LogS.Run k h S rs ∧ StOk h rs sts ∧ rs.length ≤ 19 ∧ rs = goods k h (os.take j)
theorem touch_goods {k h p : Nat} : ∀ (os : List Op8V) (j : Nat), touchB k h (p : Int) os (goods k h (os.take j)).length = true ↔ ∃ ws ∈ goods k h (os.take j), p ∈ ws.map (·.1)
  | [], j => by rw [List.take_nil]; simp [goods, touchB]
  | o :: os, 0 => by rw [List.take_zero]; simp [goods, touchB]
  | o :: os, j + 1 => by
    have ih := touch_goods (k := k) (h := h) (p := p) os j
    rw [List.take_succ_cons]
    by_cases hg : GoodOp k h o
    · have e : goods k h (o :: os.take j) = LogS.nats o.imgs :: goods k h (os.take j) := by unfold goods; simp [hg]
      rw [e, List.length_cons]
      have et : touchB k h (p : Int) (o :: os) ((goods k h (os.take j)).length + 1) = if GoodOp k h o then (if (p : Int) ∈ o.imgs.map (·.1) then true else touchB k h (p : Int) os (goods k h (os.take j)).length) else touchB k h (p : Int) os ((goods k h (os.take j)).length + 1) := rfl
      rw [et, if_pos hg]
      have hm : (p : Int) ∈ o.imgs.map (·.1) ↔ p ∈ (LogS.nats o.imgs).map (·.1) := by
        unfold LogS.nats
        rw [List.map_map]
        constructor
        · intro hx
          obtain ⟨q, hq, e1⟩ := List.mem_map.1 hx
          exact List.mem_map.2 ⟨q, hq, by show q.1.toNat = p; omega⟩
        · intro hx
          obtain ⟨q, hq, e1⟩ := List.mem_map.1 hx
          have h0 := (hg.2.2.1.1 q hq).1
          change q.1.toNat = p at e1
          exact List.mem_map.2 ⟨q, hq, by omega⟩
      by_cases hp : (p : Int) ∈ o.imgs.map (·.1)
      · rw [if_pos hp]
        exact ⟨fun _ => ⟨_, List.mem_cons_self .., hm.1 hp⟩, fun _ => rfl⟩
      · rw [if_neg hp, ih]
        constructor
        · rintro ⟨ws, h1, h2⟩; exact ⟨ws, List.mem_cons_of_mem _ h1, h2⟩
        · rintro ⟨ws, h1, h2⟩
          rcases List.mem_cons.1 h1 with rfl | h1
          · exact absurd (hm.2 h2) hp
          · exact ⟨ws, h1, h2⟩
    · have e : goods k h (o :: os.take j) = goods k h (os.take j) := by unfold goods; simp [hg]
      rw [e, ← ih]
      cases hl : (goods k h (os.take j)).length with
      | zero => rw [touchB_zero, touchB_zero]
      | succ n =>
        have et : touchB k h (p : Int) (o :: os) (n + 1) = if GoodOp k h o then (if (p : Int) ∈ o.imgs.map (·.1) then true else touchB k h (p : Int) os n) else touchB k h (p : Int) os (n + 1) := rfl
        rw [et, if_neg hg]
theorem StOk.snoc {h n : Nat} {rs : List LogS.Rec} {sts : List St} (st : StOk h rs sts) (hn : rs.length = n) {q : St} (hq : sts[n]? = some q) {ws : List (Int × Page)} (hin : ∀ r ∈ ws, 0 ≤ r.1 ∧ r.1 < (h : Int)) (b c : Nat) : StOk h (rs ++ [LogS.nats ws]) (sts ++ [(b, c, putL q.2.2 ws)]) := by
  obtain ⟨s1, s2⟩ := st
  refine ⟨by rw [List.length_append, List.length_append, s1]; rfl, fun i q' hi => ?_⟩
  obtain ⟨q3, q4⟩ := s2 n q hq
  by_cases hin' : i < sts.length
  · rw [List.getElem?_append_left hin'] at hi
    rw [List.take_append_of_le_length (by omega)]
    exact s2 i q' hi
  · have hie : i = sts.length := by
      have := (List.getElem?_eq_some_iff.1 hi).1
      rw [List.length_append, List.length_singleton] at this
      omega
    subst hie
    rw [List.getElem?_append_right (Nat.le_refl _), Nat.sub_self] at hi
    cases hi
    rw [List.take_of_length_le (by rw [List.length_append, List.length_singleton]; omega), LogS.nowR_snoc]
    refine ⟨(length_putL _ _).trans q3, fun p hp => ?_⟩
    refine (nowOf_put ws q.2.2 (by rw [q3]; exact hin) (LogS.nowR rs) (fun p' hp' => ?_) p (by rw [q3]; exact hp)).symm
    have := q4 p' (by rw [q3] at hp'; exact hp')
    rw [List.take_of_length_le (by omega)] at this
    exact this.symm
theorem vals_at {w : World} {B : Nat} {e : TypeId} {g n c : Nat} {l : List Value} (h : OwnVals w B e (.slice (some ⟨g, 0, none⟩) n c) l) {i : Nat} {u : Value} (hi : l[i]? = some u) : w.cell? ⟨g, i, none⟩ = some u := by
  obtain ⟨a, cap, hv, hvals, _⟩ := h.vals
  obtain ⟨b, o, ea, hc⟩ := hvals i u hi
  injection hv with h1
  rw [ea] at h1
  injection h1 with h1
  injection h1 with h1 h2
  rw [← h1, ← h2, Nat.zero_add] at hc
  exact hc
set_option maxRecDepth 20000 in
set_option maxHeartbeats 8000000 in
theorem walCuts_any (w : World) (s l : Int) (a : Option Addr) (cap : Nat) (os : List Op8V) (ho : Ops8At w a os) (hlen : os.length ≤ 9223372036854775807) (sector : Int) (_lo : -9223372036854775808 ≤ sector) (_hi : sector ≤ 9223372036854775807) (A : Int) (T : Nat) (hT : T < 4294967296) (c : Bool) :
    Calls Try.prog 3 #[.agg #[.int .i64 s, .int .i64 l], .slice a os.length cap, .int .i64 sector, burstV A T c] w fun e w' => e = .returned (.bool true) ∧ Tch [] w w' := by
  obtain ⟨k, h, hk, hs, f, hk2, hh2⟩ := tidy_place s l
  obtain ⟨f1, f2, f3, f4⟩ := id f
  unfold burstV
  have t0 : Tch [] w (w.alloc (.cells #[.int .i64 s, .int .i64 l] 23)) := (Tch.refl _ _).alloc _
  have b0 : (w.alloc (.cells #[.int .i64 s, .int .i64 l] 23)).heap[w.heap.size]? = some (.cells #[.int .i64 s, .int .i64 l] 23) := heap_alloc_new _ _
  have z0 : (w.alloc (.cells #[.int .i64 s, .int .i64 l] 23)).heap.size = w.heap.size + 1 := World.size_alloc _ _
  have HO := Lib.hid ho
  have HLEN := Lib.hid hlen
  clear ho hlen
  go_enter Try.func3, Try.ntmps3
  go_upto_region 1 with fail
  generalize w.alloc (.cells #[.int .i64 s, .int .i64 l] 23) = w0 at *
  have t1 : Tch [] w0 (w0.alloc (.cells #[.int .i64 A, .int .u32 T, .bool c] 27)) := (Tch.refl _ _).alloc _
  have b1 : (w0.alloc (.cells #[.int .i64 A, .int .u32 T, .bool c] 27)).heap[w0.heap.size]? = some (.cells #[.int .i64 A, .int .u32 T, .bool c] 27) := heap_alloc_new _ _
  have B1 := Lib.hid (t1.heap b0 (by simp))
  have T1 := Lib.hid (t0.trans t1)
  rw [z0] at b1
  have B2 := Lib.hid b1
  clear t0 b0 t1 b1 z0
  generalize w0.alloc (.cells #[.int .i64 A, .int .u32 T, .bool c] 27) = w1 at *
  clear w0
  obtain ⟨P0, hP⟩ : ∃ P0, w.heap.size = P0 := ⟨_, rfl⟩
  rw [hP] at B1 B2 ⊢
  have HPS : Hid (w.heap.size ≤ P0) := by show _ ≤ _; omega
  clear hP
  have c0 : w1.cell? ⟨P0, 0, none⟩ = some (.int .i64 s) := by rw [cell_of_row w1 P0 0 _ _ _ B1.out]; rfl
  have c1 : w1.cell? ⟨P0, 1, none⟩ = some (.int .i64 l) := by rw [cell_of_row w1 P0 1 _ _ _ B1.out]; rfl
  go_wp2_with fail
  refine (tidy_any w1 s l).mono ?_
  rintro e w2 ⟨rfl, t2⟩
  rw [hs, hk]
  have T2 := Lib.hid (T1.out.trans t2)
  have B3 := Lib.hid (t2.heap B1.out (by simp))
  have B4 := Lib.hid (t2.heap B2.out (by simp))
  clear t2 T1 B1 B2 c0 c1
  have c0 : w2.cell? ⟨P0, 0, none⟩ = some (.int .i64 s) := by rw [cell_of_row w2 P0 0 _ _ _ B3.out]; rfl
  have c1 : w2.cell? ⟨P0, 1, none⟩ = some (.int .i64 l) := by rw [cell_of_row w2 P0 1 _ _ _ B3.out]; rfl
  go_wp2_with fail
  refine (begun_any w2 s l hk hs f).mono ?_
  rintro e w3 ⟨g, d, L, M, V, rfl, h3, o3, t3, n1, n2, n3, n4, n5⟩
  have hsolo : Solo w w3 g d L M V (S1 k h) [] [(P0 + 1, .cells #[.int .i64 A, .int .u32 T, .bool c] 27)] := by
    have z2 := T2.out.size
    have lt4 := lt_of_heap B4.out
    refine ⟨h3, fun x hx => ?_, T2.out.trans t3, fun q hq => (by cases hq), fun q hq => ?_⟩
    · simp only [List.mem_cons, List.not_mem_nil, or_false] at hx
      rcases hx with rfl | rfl | rfl | rfl | rfl <;> omega
    · rw [List.mem_singleton.1 hq]
      refine ⟨t3.heap B4.out (by simp), fun hx => ?_⟩
      simp only [List.mem_cons, List.not_mem_nil, or_false] at hx
      omega
  have HD := Lib.hid hsolo
  clear h3 o3 t3 n1 n2 n3 n4 n5 hsolo T2 B3 B4 c0 c1 HPS
  clear hk hs
  have e1 : Hid (Value.int .i64 (2 + (k : Int) + (h : Int) - 2 - (k : Int)) = .int .i64 (h : Int)) := congrArg (Value.int .i64) (by omega)
  go_upto_block 0 with ((with_reducible apply wc_makeArrs pageT uPages (m := h)); omega; omega; exact e1.out; exact e1.out; go_frame)
  have hcm : CutM w (((w3.alloc (.cells (secsA (List.replicate h (Arr.zero : Page))) 59)).alloc (.cells #[.slice (some ⟨w3.heap.size, 0, none⟩) h h] 34)).alloc (.cells #[.int .i64 0] 3)) w3.heap.size g d L M V (P0 + 1, .cells #[.int .i64 A, .int .u32 T, .bool c] 27) (S1 k h)
      [(w3.heap.size, h, List.replicate h (Arr.zero : Page))] (.slice (some ⟨w3.heap.size + 1, 0, none⟩) 1 1) ([(w3.heap.size, h, List.replicate h (Arr.zero : Page))].map (stV h)) (.slice (some ⟨w3.heap.size + 1 + 1, 0, none⟩) 1 1) (endsR []) := by
    have hne : List.replicate h (Arr.zero : Page) ≠ [] := by
      intro e
      have := congrArg List.length e
      rw [List.length_replicate] at this
      simp at this
      omega
    have lt0 := HD.out.log.lt
    have bx0 := lt_of_heap (HD.out.box _ (List.mem_singleton.2 rfl)).1
    have z1 := World.size_alloc w3 (.cells (secsA (List.replicate h (Arr.zero : Page))) 59)
    have p1 : Solo w (w3.alloc (.cells (secsA (List.replicate h (Arr.zero : Page))) 59)) g d L M V (S1 k h) [(w3.heap.size, List.replicate h (Arr.zero : Page))] [(P0 + 1, .cells #[.int .i64 A, .int .u32 T, .bool c] 27)] := HD.out.pages ((Tch.refl _ _).alloc _) (Nat.le_refl _) (secsIn_whole (heap_alloc_new _ _))
    have tz := HD.out.tch.size
    generalize w3.alloc (.cells (secsA (List.replicate h (Arr.zero : Page))) 59) = wa at *
    have ta : Tch [] wa (wa.alloc (.cells #[.slice (some ⟨w3.heap.size, 0, none⟩) h h] 34)) := (Tch.refl _ _).alloc _
    have ha : (wa.alloc (.cells #[.slice (some ⟨w3.heap.size, 0, none⟩) h h] 34)).heap[wa.heap.size]? = some (.cells #[.slice (some ⟨w3.heap.size, 0, none⟩) h h] 34) := heap_alloc_new _ _
    have za := World.size_alloc wa (.cells #[.slice (some ⟨w3.heap.size, 0, none⟩) h h] 34)
    generalize wa.alloc (.cells #[.slice (some ⟨w3.heap.size, 0, none⟩) h h] 34) = wb at *
    have tb : Tch [] wb (wb.alloc (.cells #[.int .i64 0] 3)) := (Tch.refl _ _).alloc _
    have hb : (wb.alloc (.cells #[.int .i64 0] 3)).heap[wb.heap.size]? = some (.cells #[.int .i64 0] 3) := heap_alloc_new _ _
    have zb := World.size_alloc wb (.cells #[.int .i64 0] 3)
    generalize wb.alloc (.cells #[.int .i64 0] 3) = wc at *
    rw [z1] at ha
    rw [za, z1] at hb
    refine ⟨p1.same (ta.trans tb), lt0, bx0, tz, by omega, ownVals_single (tb.heap ha (by simp)) (by omega), ownVals_single hb (by omega), fun q hq => ?_, ⟨_, h, rfl⟩, ⟨0, rfl⟩⟩
    rw [List.mem_singleton.1 hq]
    exact ⟨Nat.le_refl _, hne⟩
  have CM := Lib.hid hcm
  have OK0 : Hid (StOk h [] [(w3.heap.size, h, List.replicate h (Arr.zero : Page))]) := by
    refine (show StOk h [] _ from ⟨rfl, fun i q hq => ?_⟩)
    match i, hq with
    | 0, hq => cases hq; exact ⟨List.length_replicate .., fun p hp => nowOf_zero h p hp⟩
    | n + 1, hq => simp at hq
  generalize ((w3.alloc (.cells (secsA (List.replicate h (Arr.zero : Page))) 59)).alloc (.cells #[.slice (some ⟨w3.heap.size, 0, none⟩) h h] 34)).alloc (.cells #[.int .i64 0] 3) = w4 at *
  generalize w3.heap.size = B0 at *
  clear hcm HD e1 w3
  obtain ⟨m, hm⟩ : ∃ m, os.length = m := ⟨_, rfl⟩
  have HN := Lib.hid hm
  rw [hm, show (2 + (k : Int) + (h : Int) - 2 - (k : Int)) = (h : Int) by omega]
  clear hm
  go_cut [14, 15, 16, 17, 18] from 42 to 115 (fun sv ev _ _ _ wx => ∃ j, CutR w wx B0 g d L M V (P0 + 1, .cells #[.int .i64 A, .int .u32 T, .bool c] 27) k h os j sv ev)
  case first =>
    go_wp2_with fail
    go_loopg [14, 15, 16, 17, 18] m (fun q sv ev i _ _ wx => ∃ j, OnAt m i q j ∧ CutR w wx B0 g d L M V (P0 + 1, .cells #[.int .i64 A, .int .u32 T, .bool c] 27) k h os j sv ev)
    case atStart => exact ⟨0, ⟨Nat.zero_le _, rfl, rfl⟩, [], _, _, B0 + 1, 1, B0 + 1 + 1, 1, rfl, rfl, CM.out, LogS.Run.start f, OK0.out, Nat.zero_le _, rfl⟩
    case round =>
      obtain ⟨j, ⟨hj, rfl, rfl⟩, rs, S, sts, sg, sc, eg, ec, rfl, rfl, hcm, hrun, hst, hlim, hgo⟩ := hrel
      clear CM OK0
      have CM := Lib.hid hcm
      have RN := Lib.hid hrun
      have ST := Lib.hid hst
      have GO := Lib.hid hgo
      clear hcm hrun hst hgo
      obtain ⟨n, hn⟩ : ∃ n, rs.length = n := ⟨_, rfl⟩
      have HRN := Lib.hid hn
      rw [hn] at hlim CM ⊢
      clear hn
      have hlm : m ≤ 9223372036854775807 := by have h1 := HLEN.out; have h2 := HN.out; omega
      by_cases hjj : j < m ∧ n + 1 < 20
      · obtain ⟨hj1, hj2⟩ := hjj
        obtain ⟨o, hx⟩ : ∃ o, os[j]? = some o := ⟨_, List.getElem?_eq_getElem (by rw [HN.out]; exact hj1)⟩
        have hgs := goods_snoc (k := k) (h := h) hx
        have GS := Lib.hid hgs
        obtain ⟨kb, ko, rfl, hop⟩ := HO.out j o hx
        have hop' := hop.later CM.out.solo.tch
        have c0 := hop'.c0
        have c1 := hop'.c1
        have c2 := hop'.c2
        have c3 := hop'.c3
        have HOP := Lib.hid hop
        clear hop hop' hx hgs
        go_wp2_with fail
        refine (images8 HOP.out CM.out.solo.tch o.what).mono ?_
        rintro e w6 ⟨t6, ia, icap, rfl, i6, b6⟩
        have C6 := Lib.hid (CM.out.same t6)
        have I6 := Lib.hid i6
        have A6 : Hid (∀ b, ia = some ⟨b, 0, none⟩ → b ∉ [g, d, L, M, V]) := fun b hb => CM.out.solo.new (b6 b hb)
        have LI := imgs_len o
        clear t6 i6 b6 CM c0 c1 c2 c3
        have c0 := (HOP.out.later C6.out.solo.tch).c0
        have keepR : ¬ GoodOp k h o → Hid (rs = goods k h (os.take (j + 1))) := fun hb => by
          have := GS.out
          rw [if_neg hb] at this
          exact (show _ = _ by rw [this]; exact GO.out)
        by_cases q1 : o.what = 1
        · by_cases l0 : o.imgs.length = 0
          · have KR := keepR (fun hb => hb.2.1 (List.eq_nil_of_length_eq_zero l0))
            clear keepR GS
            go_wp2_with fail
            go_roundg (m - (j + 1))
            case measure => omega
            case rel => exact ⟨j + 1, ⟨by omega, by go_num, rfl⟩, rs, S, sts, sg, sc, eg, ec, by rw [HRN.out], by rw [HRN.out], C6.out, RN.out, ST.out, by rw [HRN.out]; omega, KR.out⟩
          · by_cases hf : FitsP o.imgs (h : Int) (k : Int)
            · have good : GoodOp k h o := ⟨q1, fun e => l0 (by rw [e]; rfl), hf⟩
              have hgo := GS.out
              rw [if_pos good, ← GO.out] at hgo
              have hfd : decide (FitsP o.imgs (h : Int) (k : Int)) = true := decide_eq_true hf
              have hfi := fits_any I6.out (icap := icap) (by omega) (h : Int) (k : Int) (by omega) (by omega)
              rw [hfd] at hfi
              have FI := Lib.hid hfi
              have HG := Lib.hid hgo
              have HF := Lib.hid hf
              obtain ⟨c1, hc1⟩ : ∃ c1, o.imgs.length = c1 := ⟨_, rfl⟩
              have HC := Lib.hid hc1
              rw [hc1] at FI l0 LI ⊢
              have GO0 := GO
              clear hfi hgo hf good hfd hc1 keepR GS GO
              go_wp2_with fail
              refine FI.out.mono ?_
              rintro e w7 ⟨rfl, t7⟩
              have C7 := Lib.hid (C6.out.same t7)
              have I7 := Lib.hid (I6.out.later t7)
              clear t7 C6 I6 FI c0
              have e0 : w7.cell? ⟨eg, n, none⟩ = some (.int .i64 (LogS.usedR rs)) := by
                have := vals_at C7.out.ends (endsR_get (rs := rs) (i := n) (by rw [HRN.out]; exact Nat.le_refl _))
                rw [List.take_of_length_le (by rw [HRN.out]; exact Nat.le_refl _)] at this
                exact this
              have hus : S.used = LogS.usedR rs := RN.out.used
              have hul := RN.out.snd.lay.used
              rw [RN.out.log, hus] at hul
              by_cases hu : k < LogS.usedR rs + c1 + 2
              · have GOj : Hid (rs = goods k h (os.take j)) := by
                  have h1 := HG.out
                  exact (show _ = _ from GO0.out)
                go_wp2_with fail
                go_meet
                exact ⟨j, rs, S, sts, sg, sc, eg, ec, by rw [HRN.out], by rw [HRN.out], C7.out, RN.out, ST.out, by rw [HRN.out]; omega, GOj.out⟩
              · have hfit : LogS.Fit S (LogS.nats o.imgs) := by
                  have hm0 := HF.out.may RN.out.log RN.out.pages hk2
                  obtain ⟨_, k2, k3, k4, k5⟩ := LogS.nats_cast hm0
                  have hln : (LogS.nats o.imgs).length = c1 := by unfold LogS.nats; rw [List.length_map]; exact HC.out
                  have hc := HC.out
                  exact ⟨by omega, by omega, by rw [hln, hus, RN.out.log]; omega, k2, k5⟩
                obtain ⟨S', w1e, r1, u1, _⟩ := RN.out.write hfit
                have hcom : S.commit o.imgs = (0, S') := by
                  have hm0 := HF.out.may RN.out.log RN.out.pages hk2
                  have hc := HC.out
                  unfold LogS.commit
                  rw [if_neg (by simp [hm0]), if_neg (fun e => l0 (by rw [← hc, e]; rfl)), if_neg (by simp [RN.out.snd.live]), if_neg (by rw [RN.out.log, hus]; omega), w1e]
                have COM := Lib.hid hcom
                have R1 := Lib.hid r1
                clear hfit w1e r1 u1 hcom
                have hcm := commit_any C7.out.solo.log RN.out.snd.ok (icap := icap) (ws := o.imgs) I7.out (by have := HC.out; omega) A6.out
                rw [HC.out, COM.out] at hcm
                obtain ⟨q, hq⟩ : ∃ q, sts[n]? = some q := ⟨_, List.getElem?_eq_getElem (by rw [ST.out.1, HRN.out]; omega)⟩
                obtain ⟨q3, q4⟩ := ST.out.2 n q hq
                have hqm : q ∈ sts := List.mem_of_getElem? hq
                have hlen1 : (sts.map (stV h)).length = n + 1 := by rw [List.length_map, ST.out.1, HRN.out]
                have SL := Lib.hid hlen1
                go_wp2_with fail
                refine hcm.mono ?_
                rintro e w8 ⟨rfl, h8, t8⟩
                have C8 := Lib.hid (C7.out.step h8 t8)
                have I8 := Lib.hid (I7.out.touch t8 A6.out)
                have d0 : w8.cell? ⟨sg, n, none⟩ = some (.slice (some ⟨q.1, 0, none⟩) h q.2.1) := vals_at C8.out.own (by rw [List.getElem?_map, hq]; rfl)
                have hov := over_any (cap := q.2.1) (icap := icap) (C8.out.solo.pgs (stX q) (List.mem_map_of_mem hqm)).1 (C8.out.pg q hqm).2 (show q.2.2.length ≤ 100000 by omega) I8.out (by have := HC.out; omega) (show ∀ r ∈ o.imgs, 0 ≤ r.1 ∧ r.1 < (q.2.2.length : Int) by rw [q3]; exact HF.out.1.1)
                have eq3 : (stX q).2.length = h := q3
                have eq1 : (stX q).1 = q.1 := rfl
                have eq2 : (stX q).2 = q.2.2 := rfl
                rw [eq3, HC.out, eq1, eq2] at hov
                have OV := Lib.hid hov
                have Q3 := Lib.hid q3
                have ST2 : Hid (∀ b c, StOk h (rs ++ [LogS.nats o.imgs]) (sts ++ [(b, c, putL q.2.2 o.imgs)])) := fun b c => ST.out.snoc HRN.out hq HF.out.1.1 b c
                clear h8 t8 hcm hov C7 I7 hq hqm hlen1 eq1 eq2 eq3 q3 q4 e0
                go_wp2_with fail
                refine OV.out.mono ?_
                rintro e w9 ⟨t9, bn, cn, rfl, bn9, s9⟩
                have C9 := Lib.hid (C8.out.pages t9 (cap := cn) bn9 s9 (fun e => by have := congrArg List.length e; rw [length_putL, Q3.out] at this; simp at this; omega))
                clear t9 bn9 s9 OV C8 I8 d0
                go_upto_region 18 with ((with_reducible refine app_states C9.out SL.out (by omega) (u := .slice (some ⟨bn, 0, none⟩) h cn) rfl ?_ ?_ (fun sg' sc' w' hC => ?_)); exact rfl; exact rfl; have C10 := Lib.hid hC; clear hC C9; go_frame)
                have hel : (endsR rs).length = n + 1 := by rw [length_endsR, HRN.out]
                have EL := Lib.hid hel
                clear hel
                go_wp2_with ((with_reducible refine app_ends C10.out EL.out (by omega) (u := .int .i64 ((LogS.usedR rs : Int) + (c1 : Int) + 2)) rfl ?_ ?_ (fun eg' ec' w'' hC => ?_)); exact rfl; exact rfl; have C11 := Lib.hid hC; clear hC C10; go_frame)
                go_roundg (m - (j + 1))
                case measure => omega
                case rel =>
                  have hlr : (rs ++ [LogS.nats o.imgs]).length = n + 1 := by rw [List.length_append, List.length_singleton, HRN.out]
                  have hur : LogS.usedR (rs ++ [LogS.nats o.imgs]) = LogS.usedR rs + c1 + 2 := by
                    rw [LogS.usedR_snoc]
                    have : (LogS.nats o.imgs).length = c1 := by unfold LogS.nats; rw [List.length_map]; exact HC.out
                    rw [this]
                  refine ⟨j + 1, ⟨by omega, by go_num, rfl⟩, rs ++ [LogS.nats o.imgs], S', sts ++ [(bn, cn, putL q.2.2 o.imgs)], sg', sc', eg', ec', by rw [hlr], by rw [hlr], ?_, R1.out, ST2.out bn cn, by rw [hlr]; omega, HG.out.symm⟩
                  have hC := C11.out
                  rw [List.map_append, endsR_snoc, hur]
                  exact hC
            · have KR := keepR (fun hb => hf hb.2.2)
              have hfd : decide (FitsP o.imgs (h : Int) (k : Int)) = false := decide_eq_false hf
              have hfi := fits_any I6.out (icap := icap) (by omega) (h : Int) (k : Int) (by omega) (by omega)
              rw [hfd] at hfi
              have FI := Lib.hid hfi
              clear keepR GS hfi hf hfd
              go_wp2_with fail
              refine FI.out.mono ?_
              rintro e w7 ⟨rfl, t7⟩
              have C7 := Lib.hid (C6.out.same t7)
              clear t7 C6 FI c0
              go_wp2_with fail
              go_roundg (m - (j + 1))
              case measure => omega
              case rel => exact ⟨j + 1, ⟨by omega, by go_num, rfl⟩, rs, S, sts, sg, sc, eg, ec, by rw [HRN.out], by rw [HRN.out], C7.out, RN.out, ST.out, by rw [HRN.out]; omega, KR.out⟩
        · have KR := keepR (fun hb => q1 hb.1)
          clear keepR GS
          go_wp2_with fail
          go_roundg (m - (j + 1))
          case measure => omega
          case rel => exact ⟨j + 1, ⟨by omega, by go_num, rfl⟩, rs, S, sts, sg, sc, eg, ec, by rw [HRN.out], by rw [HRN.out], C6.out, RN.out, ST.out, by rw [HRN.out]; omega, KR.out⟩
      · go_wp2_with fail
        all_goals
          go_meet
          exact ⟨j, rs, S, sts, sg, sc, eg, ec, by rw [HRN.out], by rw [HRN.out], CM.out, RN.out, ST.out, by rw [HRN.out]; omega, GO.out⟩
  case rest =>
  obtain ⟨j, rs, S, sts, sg, sc, eg, ec, rfl, rfl, hcm, hrun, hst, hlim, hgo⟩ := hcut
  clear CM OK0
  have CM := Lib.hid hcm
  have RN := Lib.hid hrun
  have ST := Lib.hid hst
  have GO := Lib.hid hgo
  clear hcm hrun hst hgo
  obtain ⟨n, hn⟩ : ∃ n, rs.length = n := ⟨_, rfl⟩
  have HRN := Lib.hid hn
  rw [hn] at hlim CM ⊢
  clear hn
  have hmp : 2 + (k : Int) + (h : Int) - 2 = ((k + h : Nat) : Int) := by omega
  go_upto_region 20 with fail
  clear hmp
  have hkk : ∃ kk : Nat, wrap64 (2 + (wrap64 (sector.tmod ((k : Int) + (h : Int)) + ((k : Int) + (h : Int)))).tmod ((k : Int) + (h : Int))) = (kk : Int) ∧ 2 ≤ kk ∧ kk < 2 + k + h := by
    have hpos : (0 : Int) < (k : Int) + (h : Int) := by omega
    have h1 := Int.tmod_lt_of_pos sector hpos
    have h2 := Int.lt_tmod_of_pos sector hpos
    have e : wrap64 (sector.tmod ((k : Int) + (h : Int)) + ((k : Int) + (h : Int))) = sector.tmod ((k : Int) + (h : Int)) + ((k : Int) + (h : Int)) := by unfold wrap64; omega
    rw [e]
    have h3 : 0 ≤ sector.tmod ((k : Int) + (h : Int)) + ((k : Int) + (h : Int)) := by omega
    have h4 := Int.tmod_nonneg ((k : Int) + (h : Int)) h3
    have h5 := Int.tmod_lt_of_pos (sector.tmod ((k : Int) + (h : Int)) + ((k : Int) + (h : Int))) hpos
    generalize (sector.tmod ((k : Int) + (h : Int)) + ((k : Int) + (h : Int))).tmod ((k : Int) + (h : Int)) = x at *
    refine ⟨(2 + x).toNat, ?_, by omega, by omega⟩
    unfold wrap64
    omega
  obtain ⟨kk, ekk, kk2, kkn⟩ := hkk
  rw [ekk]
  clear ekk
  have TU := fun t => RN.out.turn kkn t
  obtain ⟨sx, hsx⟩ : ∃ sx, S.disk.at_ (kk : Int) = sx := ⟨_, rfl⟩
  have hrd := (TU Arr.zero).1
  rw [hsx] at hrd
  have RD := Lib.hid hrd
  have SX := Lib.hid hsx
  have TUH : Hid (∀ t, S.disk.write (kk : Int) t = (0, S.disk.put (kk : Int) t) ∧ (S.disk.put (kk : Int) t).flush = (0, (S.disk.put (kk : Int) t).counted.flushed) ∧
    ((S.disk.put (kk : Int) t).counted.flushed).Calm ∧ ((S.disk.put (kk : Int) t).counted.flushed).waits = (fun _ => none) ∧ ((S.disk.put (kk : Int) t).counted.flushed).lasts.length = 2 + k + h ∧
    ∀ i : Nat, i < 2 + k + h → ((S.disk.put (kk : Int) t).counted.flushed).at_ (i : Int) = if i = kk then t else S.disk.at_ (i : Int)) := fun t => (TU t).2
  clear hrd hsx TU
  go_wp2_with fail
  refine (read_any CM.out.solo.log.hD (kk : Int)).mono ?_
  rintro e w6 ⟨rfl, t6⟩
  rw [RD.out]
  have ta : Tch [] w6 (w6.alloc (.cells (secA sx) 47)) := (Tch.refl _ _).alloc _
  have xa : (w6.alloc (.cells (secA sx) 47)).heap[w6.heap.size]? = some (.cells (secA sx) 47) := heap_alloc_new _ _
  have C6 := Lib.hid (CM.out.same (t6.trans ta))
  have X6 := Lib.hid xa
  clear t6 ta xa CM
  simp only
  go_upto_region 21 with (first | ((with_reducible refine wc_alloc_arr secT ?_); go_frame; (try simp only [World.size_alloc])) | ((with_reducible apply wc_store_new secT); exact rfl; exact rfl; go_frame))
  generalize w6.alloc (.cells (secA sx) 47) = w7 at *
  generalize w6.heap.size = b7 at *
  clear w6
  have hbx : w7.heap[P0 + 1]? = some (.cells #[.int .i64 A, .int .u32 T, .bool c] 27) := (C6.out.solo.box _ (List.mem_singleton.2 rfl)).1
  have d0 : w7.cell? ⟨P0 + 1, 0, none⟩ = some (.int .i64 A) := by rw [cell_of_row w7 (P0 + 1) 0 _ _ _ hbx]; rfl
  have d1 : w7.cell? ⟨P0 + 1, 1, none⟩ = some (.int .u32 T) := by rw [cell_of_row w7 (P0 + 1) 1 _ _ _ hbx]; rfl
  have d2 : w7.cell? ⟨P0 + 1, 2, none⟩ = some (.bool c) := by rw [cell_of_row w7 (P0 + 1) 2 _ _ _ hbx]; rfl
  clear hbx
  go_wp2_with ((with_reducible apply wc_load_var secT X6.out); exact rfl; go_frame)
  refine (burst_any w7 A T hT c sx).mono ?_
  rintro e w8 ⟨rfl, t8⟩
  obtain ⟨bb, hbb⟩ : ∃ bb, burst c T (burstAt A c) sx 32 = bb := ⟨_, rfl⟩
  obtain ⟨t, turned⟩ := bb
  rw [hbb]
  have HBB := Lib.hid hbb
  have ta : Tch [] w8 (w8.alloc (.cells (secA t) 47)) := (Tch.refl _ _).alloc _
  have XA : Hid ((w8.alloc (.cells (secA t) 47)).heap[w8.heap.size]? = some (.cells (secA t) 47)) := heap_alloc_new _ _
  have C8 := Lib.hid (C6.out.same (t8.trans ta))
  clear t8 ta C6 X6 d0 d1 d2 hbb
  simp only
  go_upto_region 22 with (first | ((with_reducible refine wc_alloc_arr secT ?_); go_frame; (try simp only [World.size_alloc])) | ((with_reducible apply wc_store_new secT); exact rfl; exact rfl; go_frame))
  generalize w8.alloc (.cells (secA t) 47) = w9 at *
  generalize w8.heap.size = b9 at *
  clear w8
  obtain ⟨q1, q2, q3, q4, q5, q6⟩ := TUH.out t
  have Q1 := Lib.hid q1
  have Q2 := Lib.hid q2
  obtain ⟨D', hD'⟩ : ∃ D', (S.disk.put (kk : Int) t).counted.flushed = D' := ⟨_, rfl⟩
  rw [hD'] at Q2 q3 q4 q5 q6
  have Q3 := Lib.hid q3
  have Q4 := Lib.hid q4
  have Q5 := Lib.hid q5
  have Q6 := Lib.hid q6
  clear q1 q2 q3 q4 q5 q6 hD' TUH RD
  go_wp2_with ((with_reducible apply wcg_load_var secT XA.out); exact rfl; exact rfl; go_frame)
  refine (write_any C8.out.solo.log.hD (kk : Int) t).mono ?_
  rintro e wa ⟨rfl, ha, ta⟩
  rw [Q1.out] at ha ⊢
  have CA := Lib.hid (C8.out.disk ha (ta.mono (by simp)))
  clear ha ta C8 XA
  go_wp2_with fail
  refine (flush_any CA.out.solo.log.hD).mono ?_
  rintro e wb ⟨rfl, hb, tb⟩
  rw [Q2.out] at hb ⊢
  have CB0 := CA.out.disk hb (tb.mono (by simp))
  have CB : Hid (CutM w wb B0 g d L M V (P0 + 1, .cells #[.int .i64 A, .int .u32 T, .bool c] 27) { S with disk := D' } sts (.slice (some ⟨sg, 0, none⟩) (n + 1) sc) (sts.map (stV h)) (.slice (some ⟨eg, 0, none⟩) (n + 1) ec) (endsR rs)) := CB0
  clear hb tb CA CB0 Q1 Q2
  go_upto_region 25 with fail
  have hul := RN.out.snd.lay.used
  rw [RN.out.log] at hul
  by_cases hA : turned = true ∧ kk < 2 + k
  · obtain ⟨rfl, hkk⟩ := hA
    go_wp2_with fail
    go_loopg [24] n (fun q hv wx => ∃ cc : Nat, cc = q ∧ cc ≤ n ∧ hv = .int .i64 (cc : Nat) ∧ wb = wx ∧ (cc < n → kk - 2 < LogS.usedR (rs.take (cc + 1))))
    case atStart => exact ⟨n, rfl, Nat.le_refl _, rfl, rfl, fun hh => absurd hh (Nat.lt_irrefl _)⟩
    case round =>
      obtain ⟨cc, rfl, hcn, rfl, rfl, hnext⟩ := hrel
      have e0 : wb.cell? ⟨eg, cc, none⟩ = some (.int .i64 (LogS.usedR (rs.take cc))) := vals_at CB.out.ends (endsR_get (rs := rs) (i := cc) (by rw [HRN.out]; exact hcn))
      have NX := Lib.hid hnext
      clear hnext
      by_cases hgo2 : 0 < cc ∧ kk - 2 < LogS.usedR (rs.take cc)
      · obtain ⟨hc0, hcu⟩ := hgo2
        have hcu2 : (kk : Int) - 2 < (LogS.usedR (rs.take cc) : Int) := by omega
        obtain ⟨c1, rfl⟩ : ∃ c1, cc = c1 + 1 := ⟨cc - 1, by omega⟩
        go_wp2_with fail
        go_roundg c1
        case measure => omega
        case rel => exact ⟨c1, rfl, by omega, by go_num, rfl, fun _ => hcu⟩
      · have hcle : LogS.usedR (rs.take cc) ≤ kk - 2 := by
          by_cases h0 : cc = 0
          · subst h0; rw [List.take_zero]; exact Nat.zero_le _
          · omega
        have hfalse : 0 < cc → ¬ ((kk : Int) - 2 < (LogS.usedR (rs.take cc) : Int)) := fun h0 => by omega
        obtain ⟨TT, o1, o2, o3⟩ := RN.out.cut (c := cc) (q := kk - 2) (t := t) (D := D') (by rw [HRN.out]; exact hcn) (by omega) (by rw [LogS.used_upTo]; exact hcle) (fun hh => by rw [LogS.used_upTo]; exact NX.out (by rw [← HRN.out]; exact hh))
          (fun hh => by
            obtain ⟨fr, hfr⟩ := RN.out.frame hh
            rw [show 2 + (kk - 2) = kk by omega, SX.out] at hfr
            have := burst_none (burstAt_lt A c) hfr (chk := c) (turn := T) (by rw [HBB.out])
            rw [HBB.out] at this
            exact this)
          Q3.out Q4.out Q5.out (fun i hi => by rw [Q6.out i hi, show 2 + (kk - 2) = kk by omega])
        have O1 := Lib.hid o1
        have O2 := Lib.hid o2
        have O3 := Lib.hid o3
        obtain ⟨q, hq⟩ : ∃ q, sts[cc]? = some q := ⟨_, List.getElem?_eq_getElem (by rw [ST.out.1, HRN.out]; omega)⟩
        obtain ⟨q3, q4⟩ := ST.out.2 cc q hq
        have HQ := Lib.hid hq
        have Q3' := Lib.hid q3
        have HDH : Hid (decide (HoldsP (LogS.nowR (rs.take cc)) q.2.2) = true) := decide_eq_true (fun p hp => (q4 p (by rw [← q3]; exact hp)).symm)
        clear o1 o2 o3 hq q3 q4
        have hstep : (0 < cc ∧ ¬ ((kk : Int) - 2 < (LogS.usedR (rs.take cc) : Int))) ∨ ¬ (0 < cc) := by
          by_cases h0 : 0 < cc
          · exact .inl ⟨h0, hfalse h0⟩
          · exact .inr h0
        clear hfalse hcle hgo2
        rcases hstep with ⟨hz, hz2⟩ | hz
        all_goals
          go_wp2_with fail
          refine (open_ok CB.out.solo.log.hD O1.out).mono ?_
          rintro e w8 ⟨g8, V8, rfl, h8, o8, t8, z8, v8⟩
          have H8 := Lib.hid (CB.out.solo.opened h8 t8 z8 v8)
          have own8 := CB.out.own.kept t8 (fun x hx hm => by
            have k1 := ownBlk CB.out.own x hx
            have k2 := CB.out.blk x (by simp only [List.mem_cons, List.not_mem_nil, or_false] at hm ⊢; rcases hm with rfl | rfl | rfl <;> simp)
            omega)
          have s0 : w8.cell? ⟨sg, cc, none⟩ = some (.slice (some ⟨q.1, 0, none⟩) h q.2.1) := vals_at own8 (by rw [List.getElem?_map, HQ.out]; rfl)
          have QG : Hid (q.1 ≠ g8) := fun e => (H8.out.pgs (stX q) (List.mem_map_of_mem (List.mem_of_getElem? HQ.out))).2 (by show q.1 ∈ _; rw [e]; simp)
          have hho := holds_any (cap := q.2.1) H8.out.log O2.out (ls := q.2.2) (b := q.1) (H8.out.pgs (stX q) (List.mem_map_of_mem (List.mem_of_getElem? HQ.out))).1 (Q3'.out.trans O3.out.symm) QG.out
          rw [Q3'.out, HDH.out] at hho
          have HHO := Lib.hid hho
          clear h8 o8 t8 z8 v8 own8 hho
          go_wp2_with fail
          refine HHO.out.mono ?_
          rintro e w9 ⟨rfl, h9, t9⟩
          have H9 := Lib.hid (H8.out.step h9 (t9.mono (by simp)))
          clear h9 t9 H8 s0 HHO
          go_wp2_with (go_at_call 20; refine (works_any _).mono ?_; rintro e we ⟨rfl, te⟩; have TE := Lib.hid (H9.out.tch.trans te); clear te)
          go_ret
          exact ⟨rfl, TE.out⟩
  · have hcond : turned = true → ¬ kk < 2 + k := fun ht hk => hA ⟨ht, hk⟩
    have HCD : Hid (turned = true → ¬ (kk : Int) < 2 + (k : Int)) := fun ht hk => hA ⟨ht, by omega⟩
    obtain ⟨pm, hpm⟩ : ∃ pm, kk - 2 - k = pm := ⟨_, rfl⟩
    have hpmh : pm < h := by omega
    have hokD : ({ S with disk := D' } : LogS).Ok := RN.out.snd.ok.disk (by have h1 := Q5.out; have h2 := RN.out.snd.size; have h3 := RN.out.log; have h4 := RN.out.pages; omega)
    have OKD := Lib.hid hokD
    obtain ⟨q, hq⟩ : ∃ q, sts[n]? = some q := ⟨_, List.getElem?_eq_getElem (by rw [ST.out.1, HRN.out]; omega)⟩
    obtain ⟨q3, q4⟩ := ST.out.2 n q hq
    have hpage : q.2.2[pm]? = some (LogS.nowR rs pm) := by
      have e := q4 pm hpmh
      rw [List.take_of_length_le (by rw [HRN.out]; exact Nat.le_refl _)] at e
      rw [← e]
      unfold nowOf
      rw [List.getD_eq_getElem?_getD, List.getElem?_eq_getElem (by rw [q3]; exact hpmh)]; rfl
    have HQ := Lib.hid hq
    have HPG := Lib.hid hpage
    clear hokD hq q3 q4 hpage
    obtain ⟨tb, htb⟩ : ∃ tb, touchB k h ((kk : Int) - 2 - (k : Int)) os n = tb := ⟨_, rfl⟩
    have HTB := Lib.hid htb
    have hval : ∃ y fe, ({ S with disk := D' } : LogS).read (pm : Int) = ((y, fe), { S with disk := D' }) ∧ (((turned && !tb) = true ∧ y = Arr.zero ∧ fe = 81) ∨ ((turned && !tb) = false ∧ y = LogS.nowR rs pm ∧ fe = 0)) := by
      cases turned with
      | false =>
        have hts : t = sx := by
          have h1 := (burst_dif (chk := c) (turn := T) (s := sx) (burstAt_lt A c) 32 (by decide)).1 (by rw [HBB.out])
          rw [HBB.out] at h1
          exact h1
        have hsame := RN.out.same Q3.out Q4.out Q5.out (fun i hi => by
          rw [Q6.out i hi]
          by_cases e : i = kk
          · rw [if_pos e, e, hts, SX.out]
          · rw [if_neg e])
        exact ⟨_, _, hsame.read (p := pm) (by show pm < S.pages; rw [RN.out.pages]; exact hpmh), .inr ⟨rfl, rfl, rfl⟩⟩
      | true =>
        have hk2k : ¬ kk < 2 + k := hcond rfl
        have hkk' : (kk : Int) - 2 - (k : Int) = (pm : Int) := by omega
        have hkn : kk = 2 + k + pm := by omega
        have hnone : reads t = none := by
          obtain ⟨fr, hfr⟩ := RN.out.homeF (p := pm) hpmh
          rw [← hkn, SX.out] at hfr
          have := burst_none (burstAt_lt A c) hfr (chk := c) (turn := T) (by rw [HBB.out])
          rw [HBB.out] at this
          exact this
        have hrd := RN.out.read_rot (p := pm) hpmh hnone (D := D') Q3.out Q5.out (by rw [← hkn, Q6.out kk kkn, if_pos rfl])
        have hiff := touch_goods (k := k) (h := h) (p := pm) os j
        rw [← GO.out, HRN.out, ← hkk', HTB.out] at hiff
        by_cases ho : S.over (pm : Int) = none
        · rw [if_pos ho] at hrd
          have hb : tb = false := by
            cases tb with
            | false => rfl
            | true =>
              obtain ⟨ws, hws, hm⟩ := hiff.1 rfl
              exact absurd hm ((RN.out.over_none pm).1 ho ws hws)
          exact ⟨_, _, hrd, .inl ⟨by rw [hb]; rfl, rfl, rfl⟩⟩
        · rw [if_neg ho] at hrd
          have hb : tb = true := by
            cases tb with
            | true => rfl
            | false =>
              exfalso
              refine ho ((RN.out.over_none pm).2 fun ws hws hm => ?_)
              have := hiff.2 ⟨ws, hws, hm⟩
              cases this
          exact ⟨_, _, hrd, .inr ⟨by rw [hb]; rfl, rfl, rfl⟩⟩
    obtain ⟨y, fe, hrd, hfin⟩ := hval
    have RD := Lib.hid hrd
    have FIN := Lib.hid hfin
    have hmax : max ((kk : Int) - 2 - (k : Int)) 0 = (pm : Int) := by omega
    clear hrd hfin htb hcond hA
    go_cut [162] from 156 to 162 (fun x wx => x = .bool false ∧ wb = wx)
    case first =>
      cases turned with
      | false =>
        go_wp2_with fail
        go_meet
        exact ⟨rfl, rfl⟩
      | true =>
        have hkf := HCD.out rfl
        go_wp2_with fail
        go_meet
        exact ⟨rfl, rfl⟩
    case rest =>
    obtain ⟨rfl, rfl⟩ := hcut
    clear HCD
    go_wp2_with fail
    refine (logRead_any CB.out.solo.log OKD.out (pm : Int)).mono ?_
    rintro e w8 ⟨rfl, h8, t8⟩
    rw [RD.out] at h8 ⊢
    simp only
    have ta : Tch [] w8 (w8.alloc (.cells (secA y) 59)) := (Tch.refl _ _).alloc _
    have xa : (w8.alloc (.cells (secA y) 59)).heap[w8.heap.size]? = some (.cells (secA y) 59) := heap_alloc_new _ _
    have C8 := Lib.hid ((CB.out.step h8 (t8.mono (by simp))).same ta)
    have X8 := Lib.hid xa
    clear h8 t8 ta xa CB RD
    go_upto_region 32 with (first | ((with_reducible refine wc_alloc_arr pageT ?_); go_frame; (try simp only [World.size_alloc])) | ((with_reducible apply wc_store_new pageT); exact rfl; exact rfl; go_frame))
    generalize w8.alloc (.cells (secA y) 59) = w9 at *
    generalize w8.heap.size = X at *
    clear w8
    go_cut [214] from 205 to 214 (fun x wx => x = .bool (turned && !tb) ∧ CutM w wx B0 g d L M V (P0 + 1, .cells #[.int .i64 A, .int .u32 T, .bool c] 27) { S with disk := D' } sts (.slice (some ⟨sg, 0, none⟩) (n + 1) sc) (sts.map (stV h)) (.slice (some ⟨eg, 0, none⟩) (n + 1) ec) (endsR rs) ∧ wx.heap[X]? = some (.cells (secA y) 59))
    case first =>
      cases turned with
      | false =>
        go_wp2_with fail
        go_meet
        exact ⟨rfl, C8.out, X8.out⟩
      | true =>
        have hto := touched_any (cap := cap) (HO.out.later C8.out.solo.tch) HLEN.out ((kk : Int) - 2 - (k : Int)) n (by omega) k h (by omega)
        rw [HN.out, HTB.out] at hto
        have TO := Lib.hid hto
        clear hto
        go_wp2_with fail
        refine TO.out.mono ?_
        rintro e wd ⟨rfl, td⟩
        have CD := Lib.hid (C8.out.same td)
        have XD := Lib.hid (td.heap X8.out (by simp))
        clear td
        go_wp2_with fail
        go_meet
        exact ⟨by cases tb <;> rfl, CD.out, XD.out⟩
    case rest =>
    obtain ⟨rfl, hcm, hx⟩ := hcut
    clear C8 X8
    have C8 := Lib.hid hcm
    have X8 := Lib.hid hx
    clear hcm hx
    rcases FIN.out with ⟨hb, rfl, rfl⟩ | ⟨hb, rfl, rfl⟩
    · rw [hb]
      go_wp2_with (first | ((with_reducible apply wcg_load_var pageT X8.out); exact rfl; exact rfl; go_frame) | ((with_reducible refine wcg_build_arr pageT ?_ ?_); exact rfl; go_frame) | ((with_reducible refine wcg_eql_arr pageT (s := Arr.zero) (t := Arr.zero) ?_ ?_ ?_ ?_); exact rfl; exact rfl; exact rfl; rw [decide_eq_true rfl]; go_frame) | (go_at_call 20; refine (works_any _).mono ?_; rintro e we ⟨rfl, te⟩; have TE := Lib.hid (C8.out.solo.tch.trans te); clear te))
      go_ret
      exact ⟨rfl, TE.out⟩
    · rw [hb]
      go_upto_region 34 with fail
      have s0 : Hid (∀ w', Tch [] wc w' → w'.cell? ⟨sg, n, none⟩ = some (.slice (some ⟨q.1, 0, none⟩) h q.2.1)) := fun w' ht => vals_at (C8.out.same ht).own (by rw [List.getElem?_map, HQ.out]; rfl)
      have CX : Hid (∀ w', Tch [] wc w' → w'.heap[X]? = some (.cells (secA (LogS.nowR rs pm)) 59)) := fun w' ht => ht.heap X8.out (by simp)
      have CS : Hid (∀ w', Tch [] wc w' → SecsIn w' q.1 q.2.2) := fun w' ht => ((C8.out.same ht).solo.pgs (stX q) (List.mem_map_of_mem (List.mem_of_getElem? HQ.out))).1
      have CW : Hid (∀ w', Tch [] wc w' → Calls Try.prog 20 #[] w' fun e w'' => e = .returned (.bool true) ∧ Tch [] wc w'') := fun w' ht => (works_any w').mono (by rintro e w'' ⟨h1, h2⟩; exact ⟨h1, ht.trans h2⟩)
      obtain ⟨z, hz⟩ : ∃ z, LogS.nowR rs pm = z := ⟨_, rfl⟩
      rw [hz] at CX HPG
      refine wp_region_walk (C := fun w' => Tch [] wc w') 17 (by kernel_rfl) (by kernel_rfl) ((Tch.refl _ _).drew) ?_
      simp only [List.take_succ_cons, List.take_zero, List.drop_succ_cons, List.drop_zero]
      (repeat (first
        | ((with_reducible refine wq_load_cell (by kernel_rfl) s0.out ?_ ?_ ?_); exact rfl; exact rfl; go_frame)
        | ((with_reducible refine wq_load_var pageT CX.out ?_ ?_ ?_); exact rfl; exact rfl; go_frame)
        | ((with_reducible refine wq_load_in pageT CS.out HPG.out ?_ ?_ ?_); exact rfl; exact rfl; go_frame)
        | ((with_reducible refine wq_eql_arr pageT (s := z) (t := z) ?_ ?_ ?_ ?_); exact rfl; exact rfl; exact rfl; rw [decide_eq_true rfl]; go_frame)
        | ((with_reducible refine wq_fn cf_works ?_ ?_ CW.out ?_); exact rfl; exact rfl; go_frame)
        | go_big_quiet_skip | (go_big_quiet_want; go_big_quiet_op; first | go_big_quiet_on | (refine ⟨_, fun _ _ => rfl, ?_⟩; go_big_quiet_on))))
      refine wpQuiet_nil ?_
      intro we te
      have TE := Lib.hid (C8.out.solo.tch.trans te)
      clear te C8 X8 s0 CX CS CW
      go_wp2_with fail
      go_ret
      exact ⟨rfl, TE.out⟩
end Go.Proofs.Ythbaipljlbddcaa
/-
  Of a log of which a sector rots just what was committed ahead of that record is there; a rotten home is told: WalCuts answers true at every input. No condition.
-/
namespace Go.Proofs.Ythbaipljlbddcaa
open Go.ChangeShapes Go.WideShapes Go.ChangeAt Go.RowKit Go.Cib
open Go.ChangeMaps (open_string shut_string)

set_option maxRecDepth 100000 in
set_option maxHeartbeats 1000000 in
theorem walCuts_lifted (os : Os) (started : os.Started) (H : Type) (enc : TypeId × Value → H) :
    ReturnsInHanded {} Try.checked os 3 .any (Rows.walCutsSpec.pre6 enc Try.prog Try.f3 Rows.walCutsRow.domain false) (Rows.walCutsSpec.post enc Try.prog Try.f3 false true false false) := by
  refine returnsInHanded_of_change (C := Try.checked) own started (by kernel_rfl) Try.func3
    (ChangeSpec.witness6 (enc := enc) (C := Try.checked) false ⟨#[], #[.agg #[.int .i64 0, .int .i64 0], .slice none 0 0, .int .i64 0, .agg #[.int .i64 0, .int .u32 0, .bool false]], []⟩ 8 (by kernel_rfl) (by kernel_rfl) (by kernel_rfl) (by kernel_rfl)) ?_
  intro W base args ds gs before hval0 hW _ _
  have hval : ∀ (j : Nat) t v, Try.f3.params[j]? = some t → args[j]? = some v → Value.okWide Try.prog W .any base t v := hval0
  have hW' := hW
  obtain ⟨p, q, hA0, hV, rfl, _, _⟩ := hW
  have hA : DataW.TrodAll enc Try.prog W 0 (fun _ => true) true Try.f3.params.toList args.toList ds p := hA0
  rw [Try.params3] at hA hval
  obtain ⟨v0, vs0, d0, ds0, p0, q0, hargs, rfl, rfl, h0, r0⟩ := trodAll_cons hA
  obtain ⟨v1, vs1, d1, ds1, p1, q1, rfl, rfl, rfl, h1, r1⟩ := trodAll_cons r0
  obtain ⟨v2, vs2, d2, ds2, p2, q2, rfl, rfl, rfl, h2, r2⟩ := trodAll_cons r1
  obtain ⟨v3, vs3, d3, ds3, p3, q3, rfl, rfl, rfl, h3, r3⟩ := trodAll_cons r2
  obtain ⟨rfl, rfl, rfl⟩ := trodAll_nil r3
  obtain rfl : args = #[v0, v1, v2, v3] := by cases args; simp_all
  obtain ⟨rfl, rfl⟩ := trodVars_none hV
  obtain ⟨cs0, rfl, _⟩ := okWide_struct Try.underlying23 (hval 0 23 v0 rfl rfl)
  have k0 := h0
  have lt0 : ∀ x ∈ p0, x.block < W.heap.size := by obtain ⟨m, hm⟩ := k0; exact DataW.trod_lt m _ _ _ hm
  obtain ⟨fuel0, hf0⟩ := h0
  obtain ⟨S0, L0, e0⟩ := place_of_trod hf0
  obtain rfl : cs0 = #[.int .i64 S0, .int .i64 L0] := by cases cs0; simp [Value.cells] at e0; simp [e0]
  obtain ⟨a1, l1, c1, rfl⟩ := okWide_slice Try.underlying24 (hval 1 24 v1 rfl rfl)
  have k1 := h1
  have lt1 : ∀ x ∈ p1, x.block < W.heap.size := by obtain ⟨m, hm⟩ := k1; exact DataW.trod_lt m _ _ _ hm
  obtain ⟨fuel1, hf1⟩ := h1
  obtain ⟨x1, os1, y1, e1, g1, s1⟩ := ops8_of_trod hf1
  cases e1
  obtain ⟨a2, rfl, rfl, rfl, w2⟩ := open_int Try.underlying3 (hval 2 3 v2 rfl rfl) h2
  have b2 := w2
  simp only [Lit.wf, Bool.and_eq_true, decide_eq_true_eq] at b2
  obtain ⟨cs3, rfl, _⟩ := okWide_struct Try.underlying27 (hval 3 27 v3 rfl rfl)
  have k3 := h3
  have lt3 : ∀ x ∈ p3, x.block < W.heap.size := by obtain ⟨m, hm⟩ := k3; exact DataW.trod_lt m _ _ _ hm
  obtain ⟨fuel3, hf3⟩ := h3
  obtain ⟨A3, T3, C3, e3, lo3⟩ := burst_of_trod hf3
  obtain rfl : cs3 = #[.int .i64 A3, .int .u32 T3, .bool C3] := by cases cs3; simp [Value.cells] at e3; simp [e3]
  clear hA0 hval0
  refine (walCuts_any W S0 L0 a1 c1 os1 g1 (by have h := s1.1; unfold maxLen at h; omega) a2 b2.1 b2.2 A3 T3 lo3 C3).mono fun e W' ⟨he, ht⟩ => ?_
  subst he
  have bel : Below W.heap.size W W' := ht.below (Nat.le_refl _) (by simp)
  exact ⟨_, rfl, _, _, _, [], _, [], hW', trodAll_mk1 (shut_bool Try.underlying4 _), (trodAll_cons_mk (Below.trod laidOut (by kernel_rfl) (of_decide_eq_true (by kernel_rfl)) k0 bel lt0) (trodAll_cons_mk (Below.trod laidOut (by kernel_rfl) (of_decide_eq_true (by kernel_rfl)) k1 bel lt1) (trodAll_cons_mk (shut_int Try.underlying3 w2) (trodAll_cons_mk (Below.trod laidOut (by kernel_rfl) (of_decide_eq_true (by kernel_rfl)) k3 bel lt3) trodAll_mk0)))), rfl, bel.frame _, fun h => by cases h⟩

theorem walCuts_holds : Rows.WalCutsSaid :=
  OpenClaim.holds_of_wide 3 Try.f3 rfl rfl rfl rfl rfl rfl rfl ⟨rfl, rfl, rfl, rfl, rfl⟩ rfl rfl rfl rfl rfl (by kernel_rfl) Try.func3 (by kernel_rfl)
    (of_decide_eq_true (by kernel_rfl)) (by unfold Func.isWrapper; first | (rw [if_pos (by decide +kernel)]; kernel_rfl) | (rw [if_neg (by decide +kernel)]; exact ⟨rfl, rfl⟩))
    (fun os started H enc _ => walCuts_lifted os started H enc)
#print axioms walCuts_holds
end Go.Proofs.Ythbaipljlbddcaa
