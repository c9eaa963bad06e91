/-
  The place of a log that may be: the walk of ciboriumlaw08.tidy.
-/
import Derived.Test.YthbaipljlbddcaaLawA
import Derived.Test.YthbaipljlbddcaaLawA
import Derived.Test.YthbaipljlbddcaaLawA
import Derived.Test.YthbaipljlbddcaaLawA
import Derived.Test.YthbaipljlbddcaaLawA
import Derived.Test.YthbaipljlbddcaaLists2
namespace Go.Proofs.Ythbaipljlbddcaa
open Go.RowKit Go.Cib
def tidyLog (l : Int) : Int := 3 + (l.tmod 20 + 20).tmod 20
def tidySec (s l : Int) : Int := 2 + tidyLog l + 1 + (s.tmod 20 + 20).tmod 20
theorem mod20 (x : Int) : 0 ≤ (x.tmod 20 + 20).tmod 20 ∧ (x.tmod 20 + 20).tmod 20 < 20 ∧ -20 < x.tmod 20 ∧ x.tmod 20 < 20 := by
  have h1 := Int.tmod_lt_of_pos x (b := 20) (by decide)
  have h2 : -20 < x.tmod 20 := by have := Int.lt_tmod_of_pos x (b := 20) (by decide); omega
  have h3 : 0 ≤ x.tmod 20 + 20 := by omega
  exact ⟨Int.tmod_nonneg _ h3, Int.tmod_lt_of_pos _ (by decide), h2, h1⟩
theorem tidy_any (w : World) (s l : Int) : Calls Try.prog 8 #[.agg #[.int .i64 s, .int .i64 l]] w fun e w' => e = .returned (.tuple #[.int .i64 (tidyLog l), .int .i64 (tidySec s l)]) ∧ Tch [] w w' := by
  go_enter Try.func8, Try.ntmps8
  go_upto_region 2 with fail
  have t0 : Tch [] w (w.alloc (.cells #[.int .i64 s, .int .i64 l] 23)) := (Tch.refl _ _).alloc _
  have c0 : (w.alloc (.cells #[.int .i64 s, .int .i64 l] 23)).cell? ⟨w.heap.size, 0, none⟩ = some (.int .i64 s) := by simp
  generalize w.alloc (.cells #[.int .i64 s, .int .i64 l] 23) = w1 at *
  (refine wp_region_walk (C := fun w' => ∃ n, w' = World.drewN w1 n) 12 (by kernel_rfl) (by kernel_rfl) ⟨1, rfl⟩ ?_; simp only [List.take_succ_cons, List.take_zero, List.drop_succ_cons, List.drop_zero]; (repeat (first | fail | go_big_quiet_step (fail))); refine wpQuiet_nil ?_; intro _ hw'; obtain ⟨nq, hw''⟩ := hw'; subst hw'')
  go_wp2_with fail
  obtain ⟨l0, l1, l2, l3⟩ := mod20 l
  obtain ⟨s0, s1, s2, s3⟩ := mod20 s
  have e1 : wrap64 (l.tmod 20 + 20) = l.tmod 20 + 20 := by unfold wrap64; omega
  have e2 : wrap64 (s.tmod 20 + 20) = s.tmod 20 + 20 := by unfold wrap64; omega
  rw [e1, e2]
  have e3 : wrap64 (3 + (l.tmod 20 + 20).tmod 20) = tidyLog l := by unfold wrap64 tidyLog; omega
  rw [e3]
  have e4 : wrap64 (wrap64 (wrap64 (2 + tidyLog l) + 1) + (s.tmod 20 + 20).tmod 20) = tidySec s l := by unfold wrap64 tidySec tidyLog; omega
  rw [e4]
  go_ret2
  exact ⟨rfl, t0.trans (tch_drewN w1 nq)⟩
end Go.Proofs.Ythbaipljlbddcaa
/-
  A fresh log on a fresh disk, plain: what Format leaves, and what Open finds in it; for any place.
-/
namespace Go.Cib
open Go Go.RowKit
namespace BegunP
variable {k h : Nat}
def Fits (k h : Nat) : Prop := 3 ≤ k ∧ k ≤ 4000 ∧ 1 ≤ h ∧ 2 + k + h ≤ 16384
def D0 (k h : Nat) : DiskS := DiskS.made (2 + k + h)
theorem len0 : (D0 k h).lasts.length = 2 + k + h := by unfold D0 DiskS.made; simp
theorem calm0 (f : Fits k h) : (D0 k h).Calm := ⟨rfl, rfl, DiskS.Ok.made (by omega) f.2.2.2⟩
def L0 (k h : Nat) : LogS := ⟨D0 k h, k, h, 1, 0, 0, fun _ => none, false⟩
theorem fresh0 : LogS.fresh (D0 k h) k = L0 k h := by
  unfold LogS.fresh L0; rw [len0, show 2 + k + h - 2 - k = h by omega]
theorem in1 : DiskS.InA ((2 + k + h : Nat) : Int) (LogS.fmtA k) := by
  intro i s hi
  unfold LogS.fmtA at hi
  rcases List.mem_append.1 hi with hi | hi
  · obtain ⟨q, hq, e⟩ := List.mem_map.1 hi
    cases e
    have := List.mem_range.1 hq
    omega
  · simp at hi
theorem in2 : DiskS.InA ((2 + k + h : Nat) : Int) (L0 k h).fmtB := by
  intro i s hi
  unfold LogS.fmtB at hi
  rcases List.mem_append.1 hi with hi | hi
  · obtain ⟨q, hq, e⟩ := List.mem_map.1 hi
    cases e
    have hq' : q < h := List.mem_range.1 hq
    show 0 ≤ ((2 + k + q : Nat) : Int) ∧ ((2 + k + q : Nat) : Int) < ((2 + k + h : Nat) : Int)
    omega
  · simp at hi
theorem in3 : DiskS.InA ((2 + k + h : Nat) : Int) (L0 k h).headAs := by
  intro i s hi
  unfold LogS.headAs at hi
  simp at hi
  rw [hi.1]
  show 0 ≤ ((1 % 2 : Nat) : Int) ∧ ((1 % 2 : Nat) : Int) < ((2 + k + h : Nat) : Int)
  omega
def D1 (k h : Nat) : DiskS := (LogS.format (D0 k h) k).2
def all1 (k h : Nat) : List DAct := LogS.fmtA k ++ (L0 k h).fmtB ++ (L0 k h).headAs
theorem fmt (f : Fits k h) : (LogS.format (D0 k h) k).1 = 0 ∧ (D1 k h).Calm ∧ (D1 k h).lasts.length = 2 + k + h ∧ (D1 k h).waits = (fun _ => none) ∧ ∀ (j : Int), 0 ≤ j → j < ((2 + k + h : Nat) : Int) → (D1 k h).at_ j = DiskS.layA (D0 k h).at_ (all1 k h) j := by
  obtain ⟨f1, f2, f3, f4⟩ := id f
  obtain ⟨a1, a2, a3⟩ := (calm0 f).acts (LogS.fmtA k) (by rw [len0]; exact in1)
  have l1 : ((D0 k h).acts (LogS.fmtA k)).2.lasts.length = 2 + k + h := by rw [DiskS.length_acts]; exact len0
  obtain ⟨b1, b2, b3⟩ := a2.acts (L0 k h).fmtB (by rw [l1]; exact in2)
  have l2 : (((D0 k h).acts (LogS.fmtA k)).2.acts (L0 k h).fmtB).2.lasts.length = 2 + k + h := by rw [DiskS.length_acts]; exact l1
  obtain ⟨c1, c2, c3⟩ := b2.acts (L0 k h).headAs (by rw [l2]; exact in3)
  have e : LogS.format (D0 k h) k = (((D0 k h).acts (LogS.fmtA k)).2.acts (L0 k h).fmtB).2.acts (L0 k h).headAs := by
    unfold LogS.format
    rw [if_neg (by omega), if_neg (by omega), if_neg (by rw [len0]; omega)]
    rw [Int.toNat_natCast, fresh0]
    rw [if_neg (by rw [a1]; simp), if_neg (by rw [b1]; simp)]
  have hw : ((((D0 k h).acts (LogS.fmtA k)).2.acts (L0 k h).fmtB).2.acts (L0 k h).headAs).2.waits = fun _ => none := by
    have : (L0 k h).headAs = [.write (((L0 k h).gen % 2 : Nat) : Int) (L0 k h).headF.sector] ++ [.flush] := rfl
    rw [this]
    refine DiskS.flush_waits b2 _ ?_
    rw [l2]
    intro i s hi
    exact in3 i s (by rw [this]; exact List.mem_append_left _ hi)
  unfold D1
  rw [e]
  refine ⟨c1, c2, by rw [DiskS.length_acts]; exact l2, hw, fun j h0 h1 => ?_⟩
  rw [c3 j h0 (by rw [l2]; exact h1)]
  unfold all1
  rw [DiskS.layA_append, DiskS.layA_append]
  refine DiskS.layA_congr (n := ((2 + k + h : Nat) : Int)) (fun j g0 g1 => ?_) _ j h0 h1
  rw [b3 j g0 (by rw [l1]; exact g1)]
  exact DiskS.layA_congr (n := ((2 + k + h : Nat) : Int)) (fun j k0 k1 => a3 j k0 (by rw [len0]; exact k1)) _ j g0 g1
theorem lay_range (f : Int → Sec) (b : Nat) (s : Nat → Sec) : ∀ (n : Nat) (j : Int), DiskS.layA f ((List.range n).map fun i => DAct.write ((b + i : Nat) : Int) (s i)) j = if (b : Int) ≤ j ∧ j < ((b + n : Nat) : Int) then s (j - b).toNat else f j
  | 0, j => by rw [if_neg (by omega)]; rfl
  | n + 1, j => by
    rw [List.range_succ, List.map_append, DiskS.layA_append]
    show (if j = ((b + n : Nat) : Int) then s n else DiskS.layA f ((List.range n).map fun i => DAct.write ((b + i : Nat) : Int) (s i)) j) = _
    rw [lay_range f b s n j]
    by_cases h : j = ((b + n : Nat) : Int)
    · rw [if_pos h, if_pos (by omega), show (j - b).toNat = n by omega]
    · rw [if_neg h]
      by_cases h2 : (b : Int) ≤ j ∧ j < ((b + n : Nat) : Int)
      · rw [if_pos h2, if_pos (by omega)]
      · rw [if_neg h2, if_neg (by omega)]
theorem at1 (f : Fits k h) (j : Nat) (hj : j < 2 + k + h) : (D1 k h).at_ (j : Int) = if j = 1 then (L0 k h).headF.sector else if 2 + k ≤ j then ((L0 k h).homeF (j - (2 + k)) Arr.zero).sector else Arr.zero := by
  rw [(fmt f).2.2.2.2 j (by omega) (by omega)]
  unfold all1
  rw [DiskS.layA_append, DiskS.layA_append]
  have e3 : (L0 k h).headAs = [.write ((1 : Nat) : Int) (L0 k h).headF.sector, .flush] := rfl
  have e2 : (L0 k h).fmtB = ((List.range h).map fun p => DAct.write ((2 + k + p : Nat) : Int) ((L0 k h).homeF p Arr.zero).sector) ++ [.flush] := rfl
  have e1 : LogS.fmtA k = ((List.range (k + 2)).map fun (i : Nat) => DAct.write ((0 + i : Nat) : Int) Arr.zero) ++ [.flush] := by
    unfold LogS.fmtA; simp only [Nat.zero_add]
  rw [e3, e2, e1]
  show (if (j : Int) = ((1 : Nat) : Int) then _ else _) = _
  by_cases h1 : j = 1
  · rw [if_pos (by omega), if_pos h1]
  · rw [if_neg (by omega), if_neg h1, DiskS.layA_append]
    show DiskS.layA _ ((List.range h).map fun p => DAct.write ((2 + k + p : Nat) : Int) ((L0 k h).homeF p Arr.zero).sector) (j : Int) = _
    rw [lay_range _ (2 + k) (fun p => ((L0 k h).homeF p Arr.zero).sector) h]
    by_cases h2 : 2 + k ≤ j
    · rw [if_pos (by omega), if_pos h2, show ((j : Int) - ((2 + k : Nat) : Int)).toNat = j - (2 + k) by omega]
    · rw [if_neg (by omega), if_neg h2, DiskS.layA_append]
      show DiskS.layA _ ((List.range (k + 2)).map fun (i : Nat) => DAct.write ((0 + i : Nat) : Int) Arr.zero) (j : Int) = _
      rw [lay_range _ 0 (fun _ => Arr.zero) (k + 2), if_pos (by omega)]
/-- The log on it. -/
def S1 (k h : Nat) : LogS := ⟨D1 k h, k, h, 1, 0, 0, fun _ => none, false⟩
theorem heads_of {D : DiskS} (f : Fits k h) (hc : D.Calm) (hl : D.lasts.length = 2 + k + h) (h0 : D.at_ 0 = Arr.zero) (h1 : D.at_ 1 = (L0 k h).headF.sector) : LogS.heads D = ⟨D, k, h, 1, 0, 0, fun _ => none, false⟩ := by
  obtain ⟨f1, f2, f3, f4⟩ := id f
  have r0 : D.read 0 = (Arr.zero, 0) := by rw [hc.read (by decide) (by rw [hl]; omega), h0]
  have r1 : D.read 1 = ((L0 k h).headF.sector, 0) := by rw [hc.read (by decide) (by rw [hl]; omega), h1]
  unfold LogS.heads
  rw [r0, r1]
  simp only
  rw [LogS.chooses_zero]
  have e : (L0 k h).headF = ⟨1, 1, 0, 0, numsPage [k, h]⟩ := rfl
  rw [e, LogS.chooses_of (S := LogS.blank D) (g := 1) (log := k) (pages := h) (show (0 : Nat) < 1 by decide) (by decide) (by decide) f1 f2 f3 (by omega) (by rw [show (LogS.blank D).disk = D from rfl, hl])]
  rfl
theorem z0 (f : Fits k h) : (D1 k h).at_ 0 = Arr.zero := by
  have := at1 f 0 (by omega)
  rw [if_neg (by omega), if_neg (by omega)] at this
  exact this
theorem z1 (f : Fits k h) : (D1 k h).at_ 1 = (L0 k h).headF.sector := by
  have := at1 f 1 (by omega)
  rw [if_pos rfl] at this
  exact this
theorem z2 (f : Fits k h) : (D1 k h).at_ 2 = Arr.zero := by
  have hf := f.1
  have := at1 f 2 (by omega)
  rw [if_neg (by omega), if_neg (by omega)] at this
  exact this
theorem open1 (f : Fits k h) : LogS.opens (D1 k h) = (0, some (S1 k h), D1 k h) := by
  obtain ⟨_, hc, hl, _, _⟩ := fmt f
  have hh := heads_of f hc hl (z0 f) (z1 f)
  have e0 : ((D1 k h).read 0).2 = 0 := by rw [hc.read (by decide) (by rw [hl]; omega)]
  have e1 : ((D1 k h).read 1).2 = 0 := by rw [hc.read (by decide) (by rw [hl]; omega)]
  have hr : (S1 k h).record = none := by
    apply LogS.record_none
    apply LogS.atOk_none
    show reads ((D1 k h).at_ 2) = none
    rw [z2 f]; exact reads_zero
  have hk : (S1 k h).checkpoint = (0, S1 k h) := by
    unfold LogS.checkpoint
    rw [if_neg (by show ¬ false = true; decide), if_pos (by rfl)]
  have hg : ¬ (LogS.heads (D1 k h)).gen = 0 := by rw [hh]; exact Nat.one_ne_zero
  have hr' : ((LogS.heads (D1 k h)).runs (LogS.heads (D1 k h)).log).checkpoint = (0, S1 k h) := by
    rw [hh]
    show ((S1 k h).runs k).checkpoint = _
    rw [LogS.runs_stop k (S1 k h) hr, hk]
  unfold LogS.opens
  rw [if_neg (not_not_intro e0), if_neg (not_not_intro e1), if_neg hg, hr', if_neg (not_not_intro rfl)]
  rfl
end BegunP
end Go.Cib
/-
  What a disk is behind a failure of the power, plain: each sector is what it was, or one that was written to it; no Go in it.
-/
namespace Go.Cib
open Go Go.RowKit
namespace DiskS
def lastAt (D : DiskS) (j : Int) : Sec := D.lasts.getD j.toNat Arr.zero
/-- Each sector is what it was, or one of those that were written. -/
def Mix (n : Nat) (f : Int → Sec) (W : DAct → Prop) (D : DiskS) : Prop :=
  ∀ j : Int, 0 ≤ j → j < (n : Int) → (D.lastAt j = f j ∨ W (.write j (D.lastAt j))) ∧ ∀ s, D.waits j = some s → W (.write j s)
theorem Mix.at_ {n : Nat} {f : Int → Sec} {W : DAct → Prop} {D : DiskS} (h : Mix n f W D) {j : Int} (h0 : 0 ≤ j) (h1 : j < (n : Int)) : D.at_ j = f j ∨ W (.write j (D.at_ j)) := by
  unfold DiskS.at_
  cases hw : D.waits j with
  | none => exact (h j h0 h1).1
  | some s => exact .inr ((h j h0 h1).2 s hw)
theorem Mix.put {n : Nat} {f : Int → Sec} {W : DAct → Prop} {D : DiskS} (h : Mix n f W D) (i : Int) (s : Sec) (hw : W (.write i s)) : Mix n f W (D.put i s) := by
  intro j h0 h1
  refine ⟨(h j h0 h1).1, fun t ht => ?_⟩
  change (if j = i then some s else D.waits j) = some t at ht
  by_cases e : j = i
  · rw [if_pos e] at ht; cases ht; rw [e]; exact hw
  · rw [if_neg e] at ht; exact (h j h0 h1).2 t ht
theorem Mix.goes {n : Nat} {f : Int → Sec} {W : DAct → Prop} {D : DiskS} (h : Mix n f W D) : Mix n f W D.goes := by
  unfold DiskS.goes
  split
  · exact h
  · exact h
theorem Mix.counted {n : Nat} {f : Int → Sec} {W : DAct → Prop} {D : DiskS} (h : Mix n f W D) : Mix n f W D.counted := h
theorem lastAt_flushed (D : DiskS) {j : Int} (h0 : 0 ≤ j) (h1 : j < D.lasts.length) : D.flushed.lastAt j = D.at_ j := by
  unfold lastAt flushed DiskS.at_
  have h2 : j.toNat < D.lasts.length := by omega
  rw [List.getD_eq_getElem?_getD, getElem?_lay, List.getElem?_eq_getElem h2]
  have e : ((j.toNat : Nat) : Int) = j := by omega
  simp only [Option.map_some, Option.getD_some, e]
  rw [List.getD_eq_getElem?_getD, List.getElem?_eq_getElem h2]
  rfl
theorem Mix.flushed {f : Int → Sec} {W : DAct → Prop} {D : DiskS} (h : Mix D.lasts.length f W D) : Mix D.lasts.length f W D.flushed := by
  intro j h0 h1
  refine ⟨?_, fun s hs => by cases hs⟩
  rw [lastAt_flushed D h0 h1]
  exact h.at_ h0 h1
theorem goes_alive {D : DiskS} (h : D.went = false) (hd : D.dead = false) : D.goes.dead = false ∧ (D.armed = 0 → D.goes.armed = 0) := by
  unfold DiskS.goes
  unfold DiskS.went at h
  split
  · rename_i e; exact ⟨hd, fun _ => e⟩
  · rename_i e; exact ⟨h, fun e2 => absurd e2 e⟩
theorem goes_dies {D : DiskS} (h : D.went = true) : D.goes.dead = true ∧ D.armed ≠ 0 := by
  unfold DiskS.went at h
  have e : D.armed = 1 := by simpa using h
  unfold DiskS.goes
  rw [if_neg (by omega)]
  exact ⟨h, by omega⟩
theorem at_goes (D : DiskS) (j : Int) : D.goes.at_ j = D.at_ j := by
  unfold DiskS.goes; split <;> rfl
theorem may_in {D : DiskS} (hd : D.dead = false) {i : Int} (h0 : 0 ≤ i) (h1 : i < D.lasts.length) : D.may i = 0 := by
  unfold DiskS.may; rw [if_neg (by simp [hd]), if_neg (by omega), if_neg (by omega)]
theorem at_flushed' (D : DiskS) {j : Int} (h0 : 0 ≤ j) (h1 : j < D.lasts.length) : D.flushed.at_ j = D.at_ j := lastAt_flushed D h0 h1
/-- So many acts of a disk that is alive: all are done, or the power went in one of them. -/
theorem acts_go {n : Nat} {f : Int → Sec} {W : DAct → Prop} (xs : List DAct) : ∀ {D : DiskS}, D.dead = false → D.Ok → D.lasts.length = n → InA (n : Int) xs → (∀ x ∈ xs, W x) → Mix n f W D →
    ((D.acts xs).1 = 0 ∧ (D.acts xs).2.dead = false ∧ (D.acts xs).2.Ok ∧ Mix n f W (D.acts xs).2 ∧ (∀ j : Int, 0 ≤ j → j < (n : Int) → (D.acts xs).2.at_ j = layA D.at_ xs j) ∧ (D.armed = 0 → (D.acts xs).2.armed = 0)) ∨
    ((D.acts xs).1 = 6 ∧ (D.acts xs).2.dead = true ∧ (D.acts xs).2.Ok ∧ D.armed ≠ 0 ∧ Mix n f W (D.acts xs).2) := by
  induction xs with
  | nil => exact fun hd ok _ _ _ hm => .inl ⟨rfl, hd, ok, hm, fun _ _ _ => rfl, fun h => h⟩
  | cons x xs ih =>
    intro D hd ok hl hin hW hm
    rw [acts_cons]
    have hin' : InA (n : Int) xs := fun i s hmm => hin i s (List.mem_cons_of_mem _ hmm)
    have hW' : ∀ y ∈ xs, W y := fun y hy => hW y (List.mem_cons_of_mem _ hy)
    have okx := ok.act x
    have lx := length_act D x
    cases x with
    | write i s =>
      obtain ⟨h0, h1⟩ := hin i s (by simp)
      have hma := may_in hd h0 (by rw [hl]; exact h1)
      have e : D.act (.write i s) = (if D.went = true then 6 else 0, (D.put i s).goes) := by
        show D.write i s = _
        unfold DiskS.write
        rw [if_pos hma]
      have hm2 : Mix n f W (D.put i s).goes := (hm.put i s (hW _ (by simp))).goes
      rw [e] at okx lx ⊢
      by_cases hw : D.went = true
      · rw [if_pos hw, if_neg (show ¬ (6 : Int) = 0 by decide)]
        obtain ⟨d1, d2⟩ := goes_dies (D := D.put i s) hw
        exact .inr ⟨rfl, d1, okx, d2, hm2⟩
      · rw [if_neg hw, if_pos rfl]
        obtain ⟨a1, a2⟩ := goes_alive (D := D.put i s) ((Bool.not_eq_true _).mp hw) hd
        rcases ih (D := (D.put i s).goes) a1 okx (lx.trans hl) hin' hW' hm2 with ⟨k1, k2, k3, k4, k5, k6⟩ | ⟨k1, k2, k3, k4, k5⟩
        · refine .inl ⟨k1, k2, k3, k4, fun j g0 g1 => ?_, fun h => k6 (a2 h)⟩
          rw [k5 j g0 g1]
          exact layA_congr (n := (n : Int)) (fun j' _ _ => by rw [at_goes]; exact at_put D i s j') xs j g0 g1
        · exact .inr ⟨k1, k2, k3, fun h => k4 (a2 h), k5⟩
    | flush =>
      have e : D.act .flush = D.flush := rfl
      rw [e] at okx lx ⊢
      have hf : D.flush = if D.went = true then (6, D.counted.goes) else (0, D.counted.goes.flushed) := by
        unfold DiskS.flush; rw [if_neg (by simp [hd])]
      rw [hf] at okx lx ⊢
      have hm2 : Mix n f W D.counted.goes := hm.counted.goes
      by_cases hw : D.went = true
      · rw [if_pos hw] at okx ⊢
        rw [if_neg (show ¬ (6 : Int) = 0 by decide)]
        obtain ⟨d1, d2⟩ := goes_dies (D := D.counted) hw
        exact .inr ⟨rfl, d1, okx, d2, hm2⟩
      · rw [if_neg hw] at okx lx ⊢
        rw [if_pos rfl]
        obtain ⟨a1, a2⟩ := goes_alive (D := D.counted) ((Bool.not_eq_true _).mp hw) hd
        have hl2 : D.counted.goes.lasts.length = n := by rw [length_goes]; exact hl
        have hm3 : Mix n f W D.counted.goes.flushed := by
          have := Mix.flushed (f := f) (W := W) (D := D.counted.goes) (by rw [hl2]; exact hm2)
          rw [hl2] at this; exact this
        rcases ih (D := D.counted.goes.flushed) a1 okx (lx.trans hl) hin' hW' hm3 with ⟨k1, k2, k3, k4, k5, k6⟩ | ⟨k1, k2, k3, k4, k5⟩
        · refine .inl ⟨k1, k2, k3, k4, fun j g0 g1 => ?_, fun h => k6 (a2 h)⟩
          rw [k5 j g0 g1]
          exact layA_congr (n := (n : Int)) (fun j' b0 b1 => by rw [at_flushed' _ b0 (by rw [hl2]; exact b1), at_goes]; rfl) xs j g0 g1
        · exact .inr ⟨k1, k2, k3, fun h => k4 (a2 h), k5⟩
/-- Behind the last flush nothing waits. -/
theorem acts_flush (D : DiskS) (xs : List DAct) (h : (D.acts (xs ++ [.flush])).1 = 0) : (D.acts (xs ++ [.flush])).2.waits = fun _ => none := by
  rw [acts_append] at h ⊢
  split
  · rename_i h2
    rw [if_pos h2, acts_one] at h
    rw [acts_one]
    change (D.acts xs).2.flush.1 = 0 at h
    show (D.acts xs).2.flush.2.waits = _
    unfold DiskS.flush at h ⊢
    split
    · rename_i h3; rw [if_pos h3] at h; cases h
    · rename_i h3
      rw [if_neg h3] at h
      split
      · rename_i h4; rw [if_pos h4] at h; cases h
      · rfl
  · rename_i h2
    rw [if_neg h2] at h
    exact absurd h h2
/-- A disk on which nothing waits: each sector is what is read. -/
theorem Mix.of_still {D : DiskS} (h : D.waits = fun _ => none) (W : DAct → Prop) : Mix D.lasts.length D.at_ W D := by
  intro j h0 h1
  refine ⟨.inl ?_, fun s hs => by rw [h] at hs; cases hs⟩
  unfold DiskS.at_ lastAt
  rw [h]; rfl
/-- The power comes back. -/
theorem Mix.on {n : Nat} {f : Int → Sec} {W : DAct → Prop} {E : DiskS} (hm : Mix n f W E) (hl : E.lasts.length = n) (ok : E.Ok) (hd : E.dead = true) (keep : List Int) :
    (E.on keep).1 = 0 ∧ (E.on keep).2.dead = false ∧ (E.on keep).2.Ok ∧ (E.on keep).2.lasts.length = n ∧ (E.on keep).2.waits = (fun _ => none) ∧ (E.on keep).2.armed = E.armed ∧ ∀ j : Int, 0 ≤ j → j < (n : Int) → (E.on keep).2.at_ j = f j ∨ W (.write j ((E.on keep).2.at_ j)) := by
  have ok2 := ok.on keep
  have e : E.on keep = (0, { E with dead := false, lasts := lay E.lasts (E.kept keep), waits := fun _ => none }) := by
    unfold DiskS.on; rw [if_pos hd]
  rw [e] at ok2 ⊢
  refine ⟨rfl, rfl, ok2, (length_lay _ _).trans hl, rfl, rfl, fun j h0 h1 => ?_⟩
  have h2 : j.toNat < E.lasts.length := by omega
  have e1 : (({ E with dead := false, lasts := lay E.lasts (E.kept keep), waits := fun _ => none } : DiskS).at_ j) = (E.kept keep j).getD (E.lastAt j) := by
    show (lay E.lasts (E.kept keep)).getD j.toNat Arr.zero = _
    unfold lastAt
    rw [List.getD_eq_getElem?_getD, getElem?_lay, List.getElem?_eq_getElem h2]
    have e : ((j.toNat : Nat) : Int) = j := by omega
    simp only [Option.map_some, Option.getD_some, e]
    rw [List.getD_eq_getElem?_getD, List.getElem?_eq_getElem h2]
    rfl
  rw [e1]
  unfold kept
  split
  · cases hw : E.waits j with
    | none => exact (hm j h0 h1).1
    | some s => exact .inr ((hm j h0 h1).2 s hw)
  · exact (hm j h0 h1).1
end DiskS
end Go.Cib
/-
  A log that is sound, plain: what lies on its disk, and what is left of it wherever the power goes; no Go in it.
-/
namespace Go.Cib
open Go Go.RowKit
namespace LogS
abbrev Rec := List (Nat × Page)
/-- The pages behind a record. -/
def putNow (now : Nat → Page) (ws : Rec) : Nat → Page := ws.foldl (fun n q p => if p = q.1 then q.2 else n p) now
theorem overs_now (ws : Rec) : ∀ (o : Int → Option Page) (now : Nat → Page) (p : Nat), (∀ x, o (p : Int) = some x → now p = x) →
    (∀ x, overs o ws (p : Int) = some x → putNow now ws p = x) ∧ (overs o ws (p : Int) = none → o (p : Int) = none ∧ putNow now ws p = now p) := by
  induction ws with
  | nil => exact fun o now p h => ⟨h, fun h2 => ⟨h2, rfl⟩⟩
  | cons q ws ih =>
    intro o now p h
    have k := ih (fun p => if p = (q.1 : Int) then some q.2 else o p) (fun p => if p = q.1 then q.2 else now p) p (by
      intro x hx
      by_cases e : p = q.1
      · subst e; simp only [if_true] at hx ⊢; exact Option.some.inj hx
      · have e2 : ¬ ((p : Int) = (q.1 : Int)) := by omega
        simp only [e, e2, if_false] at hx ⊢; exact h x hx)
    refine ⟨k.1, fun h2 => ?_⟩
    obtain ⟨k2, k3⟩ := k.2 h2
    by_cases e : p = q.1
    · subst e; simp only [if_true] at k2; cases k2
    · have e2 : ¬ ((p : Int) = (q.1 : Int)) := by omega
      simp only [e2, if_false] at k2
      refine ⟨k2, ?_⟩
      show putNow (fun p => if p = q.1 then q.2 else now p) ws p = _
      rw [k3]; simp only [e, if_false]
/-- What a sector may say that lies behind the records. -/
def Old (g r : Nat) (s : Sec) : Prop := ∀ f, reads s = some f → f.gen < g ∨ (f.gen = g ∧ (f.num < r ∨ (f.num = r ∧ f.kind ≠ 4)))
/-- A record lies there whole. -/
structure LiesR (m : Int → Sec) (S : LogS) (ws : Rec) : Prop where
  n1 : 1 ≤ ws.length
  n2 : ws.length ≤ 120
  room : S.used + ws.length + 2 ≤ S.log
  lt : ∀ q ∈ ws, q.1 < S.pages
  nodup : (ws.map (·.1)).Nodup
  a2 : m ((2 + S.used : Nat) : Int) = (S.rec_ (frame2 (ws.map (·.1)))).sector
  a3 : ∀ k q, ws[k]? = some q → m ((3 + S.used + k : Nat) : Int) = (S.rec_ (frame3 k q.2)).sector
  a4 : m ((3 + S.used + ws.length : Nat) : Int) = (S.rec_ (frame4 ws.length)).sector
def Lies (m : Int → Sec) : LogS → List Rec → LogS → Prop
  | S, [], T => T = S
  | S, r :: rs, T => LiesR m S r ∧ Lies m (S.took r) rs T
theorem Lies.snoc {m : Int → Sec} : ∀ {rs : List Rec} {S T : LogS} {r : Rec}, Lies m S rs T → LiesR m T r → Lies m S (rs ++ [r]) (T.took r)
  | [], S, T, r, h, hr => by cases h; exact ⟨hr, rfl⟩
  | x :: rs, S, T, r, h, hr => ⟨h.1, Lies.snoc (rs := rs) h.2 hr⟩
theorem Lies.grow {m : Int → Sec} : ∀ {rs : List Rec} {S T : LogS}, Lies m S rs T → S.used ≤ T.used ∧ S.used + rs.length ≤ T.used ∧ S.log = T.log ∧ T.disk = S.disk
  | [], S, T, h => by cases h; exact ⟨Nat.le_refl _, Nat.le_refl _, rfl, rfl⟩
  | x :: rs, S, T, h => by
    obtain ⟨k1, k2, k3, k4⟩ := Lies.grow (rs := rs) h.2
    have e1 : (S.took x).used = S.used + x.length + 2 := rfl
    have e2 : (S.took x).log = S.log := rfl
    rw [e1] at k1 k2
    rw [e2] at k3
    exact ⟨by omega, by rw [List.length_cons]; omega, k3, k4⟩
theorem LiesR.congr {m m' : Int → Sec} {S : LogS} {r : Rec} (h : LiesR m S r) (hm : ∀ p, p < S.used + r.length + 2 → m' ((2 + p : Nat) : Int) = m ((2 + p : Nat) : Int)) : LiesR m' S r := by
  refine ⟨h.n1, h.n2, h.room, h.lt, h.nodup, ?_, fun k q hk => ?_, ?_⟩
  · rw [hm S.used (by omega)]; exact h.a2
  · have hkl := (List.getElem?_eq_some_iff.1 hk).1
    rw [show 3 + S.used + k = 2 + (1 + S.used + k) by omega, hm (1 + S.used + k) (by omega), show 2 + (1 + S.used + k) = 3 + S.used + k by omega]; exact h.a3 k q hk
  · rw [show 3 + S.used + r.length = 2 + (1 + S.used + r.length) by omega, hm _ (by omega), show 2 + (1 + S.used + r.length) = 3 + S.used + r.length by omega]; exact h.a4
theorem Lies.congr {m m' : Int → Sec} : ∀ {rs : List Rec} {S T : LogS}, Lies m S rs T → (∀ p, p < T.used → m' ((2 + p : Nat) : Int) = m ((2 + p : Nat) : Int)) → Lies m' S rs T
  | [], S, T, h, hm => h
  | x :: rs, S, T, h, hm => by
    have k := (Lies.grow (rs := rs) h.2).1
    have e1 : (S.took x).used = S.used + x.length + 2 := rfl
    rw [e1] at k
    exact ⟨h.1.congr fun p hp => hm p (by omega), Lies.congr (rs := rs) h.2 hm⟩
def on (S : LogS) (D : DiskS) : LogS := { S with disk := D }
theorem Lies.on {m : Int → Sec} (D : DiskS) : ∀ {rs : List Rec} {S T : LogS}, Lies m S rs T → Lies m (S.on D) rs (T.on D)
  | [], S, T, h => by cases h; rfl
  | x :: rs, S, T, h => ⟨⟨h.1.n1, h.1.n2, h.1.room, h.1.lt, h.1.nodup, h.1.a2, h.1.a3, h.1.a4⟩, Lies.on D (rs := rs) h.2⟩
/-- All records are found. -/
theorem Lies.runs : ∀ {rs : List Rec} {S T : LogS}, S.Ok → Lies S.disk.at_ S rs T → T.record = none → ∀ n, rs.length ≤ n → S.runs n = T
  | [], S, T, _, h, hn, n, _ => by cases h; exact runs_stop n _ hn
  | x :: rs, S, T, ok, h, hn, 0, hl => by simp at hl
  | x :: rs, S, T, ok, h, hn, n + 1, hl => by
    have hr : S.record = some x := record_of ok h.1.n1 h.1.n2 h.1.room h.1.lt h.1.nodup h.1.a2 h.1.a3 h.1.a4
    rw [runs_succ, hr]
    exact Lies.runs (rs := rs) (ok.took h.1.room h.1.lt) h.2 hn n (by simpa using hl)
/-- What lies on a disk of a log that is sound; z: nothing behind its records can be taken for one. -/
structure Lay (z : Bool) (m : Int → Sec) (S : LogS) (now : Nat → Page) : Prop where
  log3 : 3 ≤ S.log
  log4 : S.log ≤ 4000
  pages1 : 1 ≤ S.pages
  pages2 : S.pages ≤ 16384
  used : S.used ≤ S.log
  records : S.records ≤ S.used
  sup : ∀ i x, S.over i = some x → 0 ≤ i ∧ i < S.pages
  gen1 : 1 ≤ S.gen
  gen2 : S.gen < 18446744073709551616
  head : m ((S.gen % 2 : Nat) : Int) = S.headF.sector
  other : ∀ f, reads (m (((S.gen + 1) % 2 : Nat) : Int)) = some f → f.gen < S.gen
  recs : ∃ rs, Lies m { S.cleared with dead := false } rs { S with dead := false }
  gens : ∀ p, p < S.log → ∀ f, reads (m ((2 + p : Nat) : Int)) = some f → f.gen ≤ S.gen
  zone : z = true → ∀ p, S.used ≤ p → p < S.log → Old S.gen S.records (m ((2 + p : Nat) : Int))
  homes : ∀ p, p < S.pages → S.over (p : Int) = none → ∃ T : LogS, T.gen < 18446744073709551616 ∧ m ((2 + S.log + p : Nat) : Int) = (T.homeF p (now p)).sector
  over : ∀ p, p < S.pages → ∀ x, S.over (p : Int) = some x → now p = x
/-- A record that is being written does no harm; nor does what is written to homes of pages that lie in the log. -/
theorem Lay.touch {z : Bool} {m m' : Int → Sec} {S : LogS} {now : Nat → Page} (h : Lay z m S now)
    (hm : ∀ j : Nat, j < 2 + S.log + S.pages → m' (j : Int) = m (j : Int) ∨ (∃ p, j = 2 + p ∧ S.used ≤ p ∧ p < S.log ∧ Old S.gen S.records (m' (j : Int)) ∧ ∀ f, reads (m' (j : Int)) = some f → f.gen ≤ S.gen) ∨ ∃ p x, j = 2 + S.log + p ∧ S.over (p : Int) = some x) : Lay z m' S now := by
  have h3 := h.log3
  have hu := h.used
  have low : ∀ j, j < 2 + S.used → m' (j : Int) = m (j : Int) := fun j hj => by
    rcases hm j (by omega) with e | ⟨p, e, k1, k2, _⟩ | ⟨p, x, e, _⟩
    · exact e
    · omega
    · omega
  refine ⟨h.log3, h.log4, h.pages1, h.pages2, h.used, h.records, h.sup, h.gen1, h.gen2, ?_, ?_, ?_, fun p hp f hf => ?_, fun hz p h1 h2 => ?_, fun p hp ho => ?_, h.over⟩
  · rw [low _ (by omega)]; exact h.head
  · rw [low _ (by omega)]; exact h.other
  · obtain ⟨rs, hr⟩ := h.recs
    exact ⟨rs, hr.congr fun p hp => low _ (by have : p < S.used := hp; omega)⟩
  · rcases hm (2 + p) (by omega) with e | ⟨q, e, k1, k2, k3, k4⟩ | ⟨q, x, e, _⟩
    · rw [e] at hf; exact h.gens p hp f hf
    · exact k4 f hf
    · omega
  · rcases hm (2 + p) (by omega) with e | ⟨q, e, k1, k2, k3, k4⟩ | ⟨q, x, e, _⟩
    · rw [e]; exact h.zone hz p h1 h2
    · exact k3
    · omega
  · rcases hm (2 + S.log + p) (by omega) with e | ⟨q, e, k1, k2, k3, k4⟩ | ⟨q, x, e, hx⟩
    · rw [e]; exact h.homes p hp ho
    · omega
    · have : q = p := by omega
      subst this
      rw [hx] at ho; cases ho
theorem Lay.congr {z : Bool} {m m' : Int → Sec} {S : LogS} {now : Nat → Page} (h : Lay z m S now) (hm : ∀ j : Nat, j < 2 + S.log + S.pages → m' (j : Int) = m (j : Int)) : Lay z m' S now := h.touch fun j hj => .inl (hm j hj)
/-- A record that is written whole. -/
theorem Lay.took {m m' : Int → Sec} {S : LogS} {now : Nat → Page} (h : Lay true m S now) {ws : Rec} (hr : LiesR m' S ws)
    (hm : ∀ j : Nat, j < 2 + S.log + S.pages → m' (j : Int) = m (j : Int) ∨ ∃ p, j = 2 + p ∧ S.used ≤ p ∧ p < S.used + ws.length + 2) : Lay true m' (S.took ws) (putNow now ws) := by
  have h3 := h.log3
  have hu := h.used
  have hrm := hr.room
  have low : ∀ j, j < 2 + S.used → m' (j : Int) = m (j : Int) := fun j hj => by
    rcases hm j (by omega) with e | ⟨p, e, k1, k2⟩
    · exact e
    · omega
  have hov := overs_now ws S.over now
  have hsup := overs_sup ws hr.lt S.over h.sup
  have hrc := h.records
  refine ⟨h.log3, h.log4, h.pages1, h.pages2, ?_, ?_, hsup, h.gen1, h.gen2, ?_, ?_, ?_, fun p hp f hf => ?_, fun _ p h1 h2 => ?_, fun p hp ho => ?_, fun p hp x hx => ?_⟩
  · show S.used + ws.length + 2 ≤ S.log; omega
  · show S.records + 1 ≤ S.used + ws.length + 2; omega
  · show m' ((S.gen % 2 : Nat) : Int) = S.headF.sector
    rw [low _ (by omega)]; exact h.head
  · show ∀ f, reads (m' (((S.gen + 1) % 2 : Nat) : Int)) = some f → f.gen < S.gen
    rw [low _ (by omega)]; exact h.other
  · obtain ⟨rs, hrs⟩ := h.recs
    have k := Lies.snoc (r := ws) (hrs.congr (m' := m') fun p hp => low _ (by have : p < S.used := hp; omega)) ⟨hr.n1, hr.n2, hr.room, hr.lt, hr.nodup, hr.a2, hr.a3, hr.a4⟩
    exact ⟨_, k⟩
  · change p < S.log at hp
    show f.gen ≤ S.gen
    have hgen := h.gen2
    have hrec : S.records < 18446744073709551616 := by have := h.log4; omega
    have lng := hr.n2
    rcases hm (2 + p) (by omega) with e | ⟨q, e, k1, k2⟩
    · rw [e] at hf; exact h.gens p hp f hf
    · have : q = p := by omega
      subst this
      by_cases e0 : q = S.used
      · subst e0
        rw [hr.a2, reads_sector ⟨h.gen2, hrec, by show (ws.map (·.1)).length < _; rw [List.length_map]; omega⟩] at hf
        cases hf; exact Nat.le_refl _
      · by_cases e1 : q = S.used + 1 + ws.length
        · subst e1
          rw [show 2 + (S.used + 1 + ws.length) = 3 + S.used + ws.length by omega, hr.a4, reads_sector ⟨h.gen2, hrec, by show ws.length < _; omega⟩] at hf
          cases hf; exact Nat.le_refl _
        · have hk : q - S.used - 1 < ws.length := by omega
          have := hr.a3 (q - S.used - 1) _ (List.getElem?_eq_getElem hk)
          rw [show 2 + q = 3 + S.used + (q - S.used - 1) by omega, this, reads_sector ⟨h.gen2, hrec, by show q - S.used - 1 < _; omega⟩] at hf
          cases hf; exact Nat.le_refl _
  · change S.used + ws.length + 2 ≤ p at h1
    change p < S.log at h2
    show Old S.gen (S.records + 1) _
    rcases hm (2 + p) (by omega) with e | ⟨q, e, k1, k2⟩
    · rw [e]
      intro f hf
      rcases h.zone rfl p (by omega) h2 f hf with k | ⟨k, k2 | ⟨k2, _⟩⟩
      · exact .inl k
      · exact .inr ⟨k, .inl (by omega)⟩
      · exact .inr ⟨k, .inl (by omega)⟩
    · omega
  · change p < S.pages at hp
    change overs S.over ws (p : Int) = none at ho
    obtain ⟨k1, k2⟩ := (hov p (h.over p hp)).2 ho
    rcases hm (2 + S.log + p) (by omega) with e | ⟨q, e, _, _⟩
    · show ∃ T : LogS, _ ∧ m' ((2 + S.log + p : Nat) : Int) = _
      rw [e, k2]; exact h.homes p hp k1
    · omega
  · exact (hov p (h.over p hp)).1 x hx
/-- The next head, when every home is written. -/
theorem Lay.raised {z : Bool} {m m' : Int → Sec} {S : LogS} {now : Nat → Page} (h : Lay z m S now) (hg : S.gen + 1 < 18446744073709551616)
    (hh : ∀ p, p < S.pages → ∃ T : LogS, T.gen < 18446744073709551616 ∧ m ((2 + S.log + p : Nat) : Int) = (T.homeF p (now p)).sector)
    (hn : m' (((S.gen + 1) % 2 : Nat) : Int) = (⟨1, S.gen + 1, 0, 0, numsPage [S.log, S.pages]⟩ : FrameV).sector)
    (hm : ∀ j : Nat, j < 2 + S.log + S.pages → j ≠ (S.gen + 1) % 2 → m' (j : Int) = m (j : Int)) : Lay true m' { S.cleared with gen := S.gen + 1 } now := by
  have h3 := h.log3
  refine ⟨h.log3, h.log4, h.pages1, h.pages2, Nat.zero_le _, Nat.zero_le _, fun i x hx => (by cases hx), (by show 1 ≤ S.gen + 1; omega), hg, hn, ?_, ⟨[], rfl⟩, fun p hp f hf => ?_, fun _ p _ h2 => ?_, fun p hp _ => ?_, fun p _ x hx => (by cases hx)⟩
  · show ∀ f, reads (m' (((S.gen + 1 + 1) % 2 : Nat) : Int)) = some f → f.gen < S.gen + 1
    have e : (S.gen + 1 + 1) % 2 = S.gen % 2 := by omega
    rw [e, hm _ (by omega) (by omega), h.head, reads_sector ⟨h.gen2, by show (0 : Nat) < _; omega, by show (0 : Nat) < _; omega⟩]
    intro f hf
    cases hf
    show S.gen < S.gen + 1
    omega
  · change p < S.log at hp
    rw [hm _ (by omega) (by omega)] at hf
    have := h.gens p hp f hf
    show f.gen ≤ S.gen + 1
    omega
  · change p < S.log at h2
    rw [hm _ (by omega) (by omega)]
    intro f hf
    have := h.gens p h2 f hf
    exact .inl (show f.gen < S.gen + 1 by omega)
  · change p < S.pages at hp
    show ∃ T : LogS, _ ∧ m' ((2 + S.log + p : Nat) : Int) = _
    rw [hm _ (by omega) (by omega)]; exact hh p hp
end LogS
end Go.Cib
/-
  A log that is sound, plain: what Checkpoint, Commit and Open make of it, and what is left of it wherever the power goes; no Go in it.
-/
namespace Go.Cib
open Go Go.RowKit
namespace DiskS
theorem layA_val (s : Sec) (j : Int) : ∀ (xs : List DAct) (f : Int → Sec), (∀ t, DAct.write j t ∈ xs → t = s) → (f j = s ∨ DAct.write j s ∈ xs) → layA f xs j = s
  | [], f, _, h => by
    rcases h with h | h
    · exact h
    · cases h
  | .write i t :: xs, f, h, h2 => by
    refine layA_val s j xs _ (fun t ht => h t (List.mem_cons_of_mem _ ht)) ?_
    show (if j = i then t else f j) = s ∨ _
    by_cases e : j = i
    · subst e
      rw [if_pos rfl]
      exact .inl (h t (by simp))
    · rw [if_neg e]
      rcases h2 with h2 | h2
      · exact .inl h2
      · rcases List.mem_cons.1 h2 with h3 | h3
        · cases h3; exact absurd rfl e
        · exact .inr h3
  | .flush :: xs, f, h, h2 => by
    refine layA_val s j xs f (fun t ht => h t (List.mem_cons_of_mem _ ht)) ?_
    rcases h2 with h2 | h2
    · exact .inl h2
    · rcases List.mem_cons.1 h2 with h3 | h3
      · cases h3
      · exact .inr h3
theorem layA_not (j : Int) (xs : List DAct) (f : Int → Sec) (h : ∀ t, DAct.write j t ∉ xs) : layA f xs j = f j :=
  layA_val (f j) j xs f (fun t ht => absurd ht (h t)) (.inl rfl)
/-- Some writes and a flush. -/
theorem seg {D : DiskS} {n : Nat} (hd : D.dead = false) (ok : D.Ok) (hl : D.lasts.length = n) (hs : D.waits = fun _ => none) (xs : List DAct) (hin : InA (n : Int) (xs ++ [.flush])) :
    ((D.acts (xs ++ [.flush])).1 = 0 ∧ (D.acts (xs ++ [.flush])).2.dead = false ∧ (D.acts (xs ++ [.flush])).2.Ok ∧ (D.acts (xs ++ [.flush])).2.waits = (fun _ => none) ∧ (D.acts (xs ++ [.flush])).2.lasts.length = n ∧
      (∀ j : Int, 0 ≤ j → j < (n : Int) → (D.acts (xs ++ [.flush])).2.at_ j = layA D.at_ xs j) ∧ (D.armed = 0 → (D.acts (xs ++ [.flush])).2.armed = 0)) ∨
    ((D.acts (xs ++ [.flush])).1 = 6 ∧ (D.acts (xs ++ [.flush])).2.dead = true ∧ (D.acts (xs ++ [.flush])).2.Ok ∧ (D.acts (xs ++ [.flush])).2.lasts.length = n ∧ D.armed ≠ 0 ∧ Mix n D.at_ (fun x => x ∈ xs ++ [.flush]) (D.acts (xs ++ [.flush])).2) := by
  have hm : Mix n D.at_ (fun x => x ∈ xs ++ [.flush]) D := by have := Mix.of_still hs (fun x => x ∈ xs ++ [.flush]); rw [hl] at this; exact this
  have hl2 : (D.acts (xs ++ [.flush])).2.lasts.length = n := (length_acts _ _).trans hl
  rcases acts_go (xs ++ [.flush]) hd ok hl hin (fun x hx => hx) hm with ⟨k1, k2, k3, k4, k5, k6⟩ | ⟨k1, k2, k3, k4, k5⟩
  · refine .inl ⟨k1, k2, k3, acts_flush D xs k1, hl2, fun j h0 h1 => ?_, k6⟩
    rw [k5 j h0 h1, layA_append]; rfl
  · exact .inr ⟨k1, k2, k3, hl2, k4, k5⟩
end DiskS
namespace LogS
theorem Lay.on {z : Bool} {m : Int → Sec} {S : LogS} {now : Nat → Page} (h : Lay z m S now) (D : DiskS) : Lay z m (S.on D) now :=
  ⟨h.log3, h.log4, h.pages1, h.pages2, h.used, h.records, h.sup, h.gen1, h.gen2, h.head, h.other, by obtain ⟨rs, hr⟩ := h.recs; exact ⟨rs, hr.on D⟩, h.gens, h.zone, h.homes, h.over⟩
def live (S : LogS) (b : Bool) : LogS := { S with dead := b }
theorem Lay.live {z : Bool} {m : Int → Sec} {S : LogS} {now : Nat → Page} (h : Lay z m S now) (b : Bool) : Lay z m (S.live b) now :=
  ⟨h.log3, h.log4, h.pages1, h.pages2, h.used, h.records, h.sup, h.gen1, h.gen2, h.head, h.other, h.recs, h.gens, h.zone, h.homes, h.over⟩
theorem Lay.weak {z : Bool} {m : Int → Sec} {S : LogS} {now : Nat → Page} (h : Lay true m S now) : Lay z m S now :=
  ⟨h.log3, h.log4, h.pages1, h.pages2, h.used, h.records, h.sup, h.gen1, h.gen2, h.head, h.other, h.recs, h.gens, fun _ => h.zone rfl, h.homes, h.over⟩
/-- A log that is sound on its disk. -/
structure Sound (z : Bool) (S : LogS) (now : Nat → Page) : Prop where
  lay : Lay z S.disk.at_ S now
  dok : S.disk.Ok
  still : S.disk.waits = fun _ => none
  alive : S.disk.dead = false
  live : S.dead = false
  size : 2 + S.log + S.pages = S.disk.lasts.length
theorem Sound.ok {z : Bool} {S : LogS} {now : Nat → Page} (h : Sound z S now) : S.Ok := ⟨h.lay.log3, h.lay.log4, h.lay.pages1, h.lay.pages2, h.size, h.lay.used, h.lay.records, h.lay.gen2, h.lay.sup⟩
/-- On a disk there lies a sound log. -/
def Found (z : Bool) (k h g : Nat) (D : DiskS) (now : Nat → Page) : Prop := ∃ S : LogS, S.disk = D ∧ Sound z S now ∧ S.log = k ∧ S.pages = h ∧ S.gen ≤ g
/-- What is left when the power went. -/
structure Left (z : Bool) (k h g : Nat) (E : DiskS) (P : (Nat → Page) → Prop) : Prop where
  dead : E.dead = true
  ok : E.Ok
  len : E.lasts.length = 2 + k + h
  back : ∀ keep, ∃ now, P now ∧ Found z k h g (E.on keep).2 now
theorem Found.armed {z : Bool} {k h g : Nat} {D : DiskS} {now : Nat → Page} (f : Found z k h g D now) {a : Int} (h0 : 0 ≤ a) (h1 : a ≤ 9223372036854775807) : Found z k h g { D with armed := a } now := by
  obtain ⟨S, rfl, hs, h2, h3, h4⟩ := f
  refine ⟨S.on { S.disk with armed := a }, rfl, ⟨?_, ⟨hs.dok.some, hs.dok.size, hs.dok.sup, h0, h1⟩, hs.still, hs.alive, hs.live, hs.size⟩, h2, h3, h4⟩
  exact hs.lay.on _
theorem Left.of {z : Bool} {n k h g : Nat} {E : DiskS} {f : Int → Sec} {W : DAct → Prop} {P : (Nat → Page) → Prop} (hm : DiskS.Mix n f W E) (hd : E.dead = true) (ok : E.Ok) (hl : E.lasts.length = n) (hn : n = 2 + k + h)
    (hp : ∀ m' : Int → Sec, (∀ j : Nat, j < n → m' (j : Int) = f (j : Int) ∨ W (.write (j : Int) (m' (j : Int)))) → ∃ (S : LogS) (now : Nat → Page), P now ∧ Lay z m' S now ∧ S.log = k ∧ S.pages = h ∧ S.gen ≤ g) : Left z k h g E P := by
  refine ⟨hd, ok, hl.trans hn, fun keep => ?_⟩
  obtain ⟨k1, k2, k3, k4, k5, _, k6⟩ := hm.on hl ok hd keep
  obtain ⟨S, now, p1, p2, p3, p4, p5⟩ := hp (E.on keep).2.at_ (fun j hj => k6 (j : Int) (by omega) (by omega))
  refine ⟨now, p1, (S.on (E.on keep).2).live false, rfl, ⟨(p2.on _).live _, k3, k5, k2, rfl, ?_⟩, p3, p4, p5⟩
  show 2 + S.log + S.pages = (E.on keep).2.lasts.length
  rw [p3, p4, k4, hn]
theorem Left.imp {z : Bool} {k h g g' : Nat} {E : DiskS} {P Q : (Nat → Page) → Prop} (l : Left z k h g E P) (hpq : ∀ now, P now → Q now) (hg : g ≤ g') : Left z k h g' E Q :=
  ⟨l.dead, l.ok, l.len, fun keep => by
    obtain ⟨now, p, S, a, b, c, d, e⟩ := l.back keep
    exact ⟨now, hpq now p, S, a, b, c, d, Nat.le_trans e hg⟩⟩
theorem mem_kept {S : LogS} {q : Nat × Page} : q ∈ S.kept ↔ q.1 < S.pages ∧ S.over (q.1 : Int) = some q.2 := by
  unfold kept
  rw [List.mem_filterMap]
  constructor
  · rintro ⟨p, hp, e⟩
    cases ho : S.over (p : Int) with
    | none => rw [ho] at e; cases e
    | some x => rw [ho] at e; cases e; exact ⟨List.mem_range.1 hp, ho⟩
  · rintro ⟨h1, h2⟩
    exact ⟨q.1, List.mem_range.2 h1, by rw [h2]; rfl⟩
def homeWs (S : LogS) : List DAct := S.kept.map fun q => S.homeA q.1 q.2
theorem mem_homeWs {S : LogS} {j : Int} {s : Sec} : DAct.write j s ∈ S.homeWs ↔ ∃ p x, p < S.pages ∧ S.over (p : Int) = some x ∧ j = ((2 + S.log + p : Nat) : Int) ∧ s = (S.homeF p x).sector := by
  unfold homeWs
  rw [List.mem_map]
  constructor
  · rintro ⟨q, hq, e⟩
    obtain ⟨k1, k2⟩ := mem_kept.1 hq
    unfold homeA at e
    cases e
    exact ⟨q.1, q.2, k1, k2, rfl, rfl⟩
  · rintro ⟨p, x, h1, h2, rfl, rfl⟩
    exact ⟨(p, x), mem_kept.2 ⟨h1, h2⟩, rfl⟩
theorem write_flush {j : Int} {s : Sec} {xs : List DAct} (h : DAct.write j s ∈ xs ++ [.flush]) : DAct.write j s ∈ xs := by
  rcases List.mem_append.1 h with h | h
  · exact h
  · simp at h
/-- Every home is written. -/
theorem homes_laid {z : Bool} {m : Int → Sec} {S : LogS} {now : Nat → Page} (h : Lay z m S now) {p : Nat} (hp : p < S.pages) : ∃ T : LogS, T.gen < 18446744073709551616 ∧ DiskS.layA m S.homeWs ((2 + S.log + p : Nat) : Int) = (T.homeF p (now p)).sector := by
  cases ho : S.over (p : Int) with
  | none =>
    obtain ⟨T, t1, t2⟩ := h.homes p hp ho
    refine ⟨T, t1, ?_⟩
    rw [DiskS.layA_not, t2]
    intro t ht
    obtain ⟨q, x, _, k2, k3, _⟩ := mem_homeWs.1 ht
    have : q = p := by omega
    subst this
    rw [ho] at k2; cases k2
  | some x =>
    refine ⟨S, h.gen2, ?_⟩
    rw [h.over p hp x ho]
    refine DiskS.layA_val _ _ _ _ (fun t ht => ?_) (.inr (mem_homeWs.2 ⟨p, x, hp, ho, rfl, rfl⟩))
    obtain ⟨q, y, _, k2, k3, k4⟩ := mem_homeWs.1 ht
    have : q = p := by omega
    subst this
    rw [ho] at k2; cases k2; exact k4
theorem nextF_eq (S : LogS) (hg : S.gen + 1 < 18446744073709551616) : S.next.headF = ⟨1, S.gen + 1, 0, 0, numsPage [S.log, S.pages]⟩ := by
  show (⟨1, (S.gen + 1) % 18446744073709551616, 0, 0, numsPage [S.log, S.pages]⟩ : FrameV) = _
  rw [Nat.mod_eq_of_lt hg]
theorem next_gen (S : LogS) (hg : S.gen + 1 < 18446744073709551616) : S.next.gen = S.gen + 1 := Nat.mod_eq_of_lt hg
def headW (S : LogS) : DAct := .write (((S.gen + 1) % 2 : Nat) : Int) (⟨1, S.gen + 1, 0, 0, numsPage [S.log, S.pages]⟩ : FrameV).sector
theorem nextAs (S : LogS) (hg : S.gen + 1 < 18446744073709551616) : S.next.headAs = [S.headW] ++ [.flush] := by
  unfold headAs headW
  rw [nextF_eq S hg, next_gen S hg]
  rfl
/-- Checkpoint. -/
theorem Sound.checkpoint {z : Bool} {S : LogS} {now : Nat → Page} (h : Sound z S now) (hg : S.gen + 1 < 18446744073709551616) :
    (S.checkpoint.1 = 0 ∧ Sound z S.checkpoint.2 now ∧ S.checkpoint.2.log = S.log ∧ S.checkpoint.2.pages = S.pages ∧ S.checkpoint.2.gen ≤ S.gen + 1 ∧ S.checkpoint.2.used = 0 ∧ (S.disk.armed = 0 → S.checkpoint.2.disk.armed = 0) ∧ (S.used ≠ 0 → Sound true S.checkpoint.2 now ∧ S.checkpoint.2.over = fun _ => none)) ∨
    (S.checkpoint.1 = 6 ∧ S.checkpoint.2.dead = true ∧ S.checkpoint.2.log = S.log ∧ S.checkpoint.2.pages = S.pages ∧ S.disk.armed ≠ 0 ∧ Left z S.log S.pages (S.gen + 1) S.checkpoint.2.disk (· = now)) := by
  have hl := h.lay
  have h3 := hl.log3
  by_cases hu : S.used = 0
  · have e : S.checkpoint = (0, S) := by
      unfold LogS.checkpoint; rw [if_neg (by simp [h.live]), if_pos hu]
    rw [e]
    exact .inl ⟨rfl, h, rfl, rfl, Nat.le_succ _, hu, fun h => h, fun h2 => absurd hu h2⟩
  have inH : DiskS.InA ((2 + S.log + S.pages : Nat) : Int) (S.homeWs ++ [.flush]) := by
    intro i s hi
    obtain ⟨p, x, k1, _, k3, _⟩ := mem_homeWs.1 (write_flush hi)
    omega
  have eH : S.homeAs = S.homeWs ++ [.flush] := rfl
  rcases DiskS.seg h.alive h.dok h.size.symm h.still S.homeWs inH with ⟨a1, a2, a3, a4, a5, a6, a7⟩ | ⟨a1, a2, a3, a4, a5, a6⟩
  · generalize hA : S.disk.acts (S.homeWs ++ [.flush]) = A at a1 a2 a3 a4 a5 a6 a7
    obtain ⟨A1, D1⟩ := A
    simp only at a1 a2 a3 a4 a5 a6 a7
    subst a1
    have inR : DiskS.InA ((2 + S.log + S.pages : Nat) : Int) ([S.headW] ++ [.flush]) := by
      intro i s hi
      have := write_flush hi
      simp only [List.mem_singleton] at this
      unfold headW at this
      cases this
      omega
    have lay1 : Lay z D1.at_ (S.on D1) now := by
      refine (hl.touch fun j hj => ?_).on D1
      rw [a6 (j : Int) (by omega) (by omega)]
      by_cases hj2 : ∃ p x, j = 2 + S.log + p ∧ S.over (p : Int) = some x
      · exact .inr (.inr hj2)
      · refine .inl (DiskS.layA_not _ _ _ fun t ht => hj2 ?_)
        obtain ⟨p, x, k1, k2, k3, _⟩ := mem_homeWs.1 ht
        exact ⟨p, x, by omega, k2⟩
    have homes1 : ∀ p, p < S.pages → ∃ T : LogS, T.gen < 18446744073709551616 ∧ D1.at_ ((2 + S.log + p : Nat) : Int) = (T.homeF p (now p)).sector := by
      intro p hp
      rw [a6 _ (by omega) (by omega)]
      exact homes_laid hl hp
    have eR : ({ S with disk := D1 } : LogS).raise = ((D1.acts ([S.headW] ++ [.flush])).1, { S.next with disk := (D1.acts ([S.headW] ++ [.flush])).2 }) := by
      unfold raise
      have : ({ S with disk := D1 } : LogS).next.headAs = S.next.headAs := rfl
      rw [this, nextAs S hg]
      rfl
    have eC : S.checkpoint = (if (D1.acts ([S.headW] ++ [.flush])).1 ≠ 0 then ((D1.acts ([S.headW] ++ [.flush])).1, ({ S.next with disk := (D1.acts ([S.headW] ++ [.flush])).2 } : LogS).told ((D1.acts ([S.headW] ++ [.flush])).1, (D1.acts ([S.headW] ++ [.flush])).2)) else (0, ({ S.next with disk := (D1.acts ([S.headW] ++ [.flush])).2 } : LogS).cleared)) := by
      unfold LogS.checkpoint
      rw [if_neg (by simp [h.live]), if_neg hu, eH, hA, if_neg (by simp)]
      simp only
      rw [eR]
    have hW : ∀ (m' : Int → Sec), m' (((S.gen + 1) % 2 : Nat) : Int) = (⟨1, S.gen + 1, 0, 0, numsPage [S.log, S.pages]⟩ : FrameV).sector → (∀ j : Nat, j < 2 + S.log + S.pages → j ≠ (S.gen + 1) % 2 → m' (j : Int) = D1.at_ (j : Int)) → Lay true m' { (S.on D1).cleared with gen := S.gen + 1 } now :=
      fun m' k1 k2 => Lay.raised (S := S.on D1) lay1 hg homes1 k1 k2
    rcases DiskS.seg a2 a3 a5 a4 [S.headW] inR with ⟨b1, b2, b3, b4, b5, b6, b7⟩ | ⟨b1, b2, b3, b4, b5, b6⟩
    · rw [eC, if_neg (by rw [b1]; simp)]
      generalize hB : D1.acts ([S.headW] ++ [.flush]) = B at b1 b2 b3 b4 b5 b6 b7
      obtain ⟨B1, D2⟩ := B
      simp only at b1 b2 b3 b4 b5 b6 b7
      have l2 : Lay true D2.at_ { (S.on D1).cleared with gen := S.gen + 1 } now := by
        refine hW D2.at_ ?_ fun j hj hne => ?_
        · rw [b6 _ (by omega) (by omega)]
          show (if (((S.gen + 1) % 2 : Nat) : Int) = (((S.gen + 1) % 2 : Nat) : Int) then _ else _) = _
          rw [if_pos rfl]
        · rw [b6 _ (by omega) (by omega)]
          show (if (j : Int) = (((S.gen + 1) % 2 : Nat) : Int) then _ else _) = _
          rw [if_neg (by omega)]
      have eL : ({ S.next with disk := D2 } : LogS).cleared = ({ (S.on D1).cleared with gen := S.gen + 1 } : LogS).on D2 := by
        have e : S.next = { S with gen := S.gen + 1 } := by unfold LogS.next; rw [Nat.mod_eq_of_lt hg]
        rw [e]; rfl
      have s2 : Sound true ({ S.next with disk := D2 } : LogS).cleared now := ⟨by rw [eL]; exact l2.on D2, b3, b4, b2, h.live, b5.symm⟩
      exact .inl ⟨rfl, ⟨s2.lay.weak, s2.dok, s2.still, s2.alive, s2.live, s2.size⟩, rfl, rfl, by show S.next.gen ≤ _; rw [next_gen S hg]; exact Nat.le_refl _, rfl, fun h => b7 (a7 h), fun _ => ⟨s2, rfl⟩⟩
    · rw [eC, if_pos (by rw [b1]; decide)]
      have b5' : S.disk.armed ≠ 0 := fun h => b5 (a7 h)
      refine .inr ⟨b1, ?_, rfl, rfl, b5', ?_⟩
      · show (S.dead || ((D1.acts ([S.headW] ++ [.flush])).1 == 6)) = true
        rw [b1]; simp
      · show Left z S.log S.pages (S.gen + 1) (D1.acts ([S.headW] ++ [.flush])).2 _
        refine Left.of b6 b2 b3 b4 rfl fun m' hm' => ?_
        by_cases hn : m' (((S.gen + 1) % 2 : Nat) : Int) = (⟨1, S.gen + 1, 0, 0, numsPage [S.log, S.pages]⟩ : FrameV).sector
        · refine ⟨_, now, rfl, (hW m' hn fun j hj hne => ?_).weak, rfl, rfl, Nat.le_refl _⟩
          rcases hm' j hj with k | k
          · exact k
          · have := write_flush k
            simp only [List.mem_singleton] at this
            unfold headW at this
            injection this with i1 i2
            omega
        · refine ⟨S.on D1, now, rfl, lay1.congr fun j hj => ?_, rfl, rfl, Nat.le_succ _⟩
          rcases hm' j hj with k | k
          · exact k
          · have := write_flush k
            simp only [List.mem_singleton] at this
            unfold headW at this
            injection this with i1 i2
            have : j = (S.gen + 1) % 2 := by omega
            subst this
            exact absurd i2 hn
  · have eC : S.checkpoint = ((S.disk.acts (S.homeWs ++ [.flush])).1, S.told (S.disk.acts (S.homeWs ++ [.flush]))) := by
      unfold LogS.checkpoint
      rw [if_neg (by simp [h.live]), if_neg hu, eH, if_pos (by rw [a1]; decide)]
    rw [eC]
    refine .inr ⟨a1, ?_, rfl, rfl, a5, ?_⟩
    · show (S.dead || ((S.disk.acts (S.homeWs ++ [.flush])).1 == 6)) = true
      rw [a1]; simp
    · show Left z S.log S.pages (S.gen + 1) (S.disk.acts (S.homeWs ++ [.flush])).2 _
      refine Left.of a6 a2 a3 a4 rfl fun m' hm' => ⟨S, now, rfl, hl.touch fun j hj => ?_, rfl, rfl, Nat.le_succ _⟩
      rcases hm' j hj with k | k
      · exact .inl k
      · obtain ⟨p, x, k1, k2, k3, _⟩ := mem_homeWs.1 (write_flush k)
        exact .inr (.inr ⟨p, x, by omega, k2⟩)
end LogS
end Go.Cib
/-
  A log that is sound, plain: Commit, Open and Read; no Go in it.
-/
namespace Go.Cib
open Go Go.RowKit
namespace LogS
theorem mem_puts {S : LogS} {j : Int} {s : Sec} : ∀ {fs : List FrameV} {pl : Nat}, DAct.write j s ∈ S.putsA pl fs → ∃ i f, fs[i]? = some f ∧ j = ((pl + i : Nat) : Int) ∧ s = (S.rec_ f).sector
  | [], pl, h => by simp [putsA] at h
  | x :: fs, pl, h => by
    rw [putsA] at h
    rcases List.mem_cons.1 h with h | h
    · cases h; exact ⟨0, x, rfl, rfl, rfl⟩
    · obtain ⟨i, f, k1, k2, k3⟩ := mem_puts h
      exact ⟨i + 1, f, by rw [List.getElem?_cons_succ]; exact k1, by omega, k3⟩
theorem length_frames (ws : Rec) : (recFrames ws).length = ws.length + 1 := by unfold recFrames imgFrames; simp
theorem frames_zero (ws : Rec) : (recFrames ws)[0]? = some (frame2 (ws.map (·.1))) := rfl
theorem frames_succ {ws : Rec} {k : Nat} {q : Nat × Page} (h : ws[k]? = some q) : (recFrames ws)[k + 1]? = some (frame3 k q.2) := by
  unfold recFrames imgFrames
  rw [List.getElem?_cons_succ, List.getElem?_map, List.getElem?_zipIdx, h]
  simp
theorem frames_cases {ws : Rec} {i : Nat} {f : FrameV} (h : (recFrames ws)[i]? = some f) : i < ws.length + 1 ∧ f.kind ≠ 4 ∧ (f = frame2 (ws.map (·.1)) ∨ ∃ k x, k < ws.length ∧ f = frame3 k x) := by
  have hi : i < ws.length + 1 := by rw [← length_frames ws]; exact (List.getElem?_eq_some_iff.1 h).1
  refine ⟨hi, ?_⟩
  cases i with
  | zero => rw [frames_zero] at h; cases h; exact ⟨show (2 : UInt8) ≠ 4 by decide, .inl rfl⟩
  | succ k =>
    have hk : k < ws.length := by omega
    rw [frames_succ (List.getElem?_eq_getElem hk)] at h
    cases h
    exact ⟨show (3 : UInt8) ≠ 4 by decide, .inr ⟨k, _, hk, rfl⟩⟩
/-- What may be written as one record. -/
structure Fit (S : LogS) (ws : Rec) : Prop where
  n1 : 1 ≤ ws.length
  n2 : ws.length ≤ 120
  room : S.used + ws.length + 2 ≤ S.log
  lt : ∀ q ∈ ws, q.1 < S.pages
  nodup : (ws.map (·.1)).Nodup
theorem Sound.write {S : LogS} {now : Nat → Page} (h : Sound true S now) {ws : Rec} (hf : Fit S ws) :
    ((S.write ws).1 = 0 ∧ Sound true (S.write ws).2 (putNow now ws) ∧ (S.write ws).2.log = S.log ∧ (S.write ws).2.pages = S.pages ∧ (S.write ws).2.gen = S.gen ∧ (S.disk.armed = 0 → (S.write ws).2.disk.armed = 0)) ∨
    ((S.write ws).1 = 6 ∧ (S.write ws).2.dead = true ∧ (S.write ws).2.log = S.log ∧ (S.write ws).2.pages = S.pages ∧ S.disk.armed ≠ 0 ∧ Left true S.log S.pages S.gen (S.write ws).2.disk (fun n => n = now ∨ n = putNow now ws)) := by
  have hl := h.lay
  have h3 := hl.log3
  have hn1 := hf.n1; have hn2 := hf.n2; have hrm := hf.room; have hrc := hl.records; have h4 := hl.log4
  have hrec : S.records < 18446744073709551616 := by omega
  have inA1 : DiskS.InA ((2 + S.log + S.pages : Nat) : Int) (S.putsA (2 + S.used) (recFrames ws) ++ [.flush]) := by
    intro i s hi
    exact inA_puts S _ (recFrames ws) (2 + S.used) (by rw [length_frames]; omega) i s (write_flush hi)
  have inB1 : DiskS.InA ((2 + S.log + S.pages : Nat) : Int) (S.putsA (3 + S.used + ws.length) [frame4 ws.length] ++ [.flush]) := by
    intro i s hi
    exact inA_puts S _ [frame4 ws.length] (3 + S.used + ws.length) (by rw [List.length_singleton]; omega) i s (write_flush hi)
  have eW : S.writeAs ws = (S.putsA (2 + S.used) (recFrames ws) ++ [.flush]) ++ (S.putsA (3 + S.used + ws.length) [frame4 ws.length] ++ [.flush]) := by
    unfold writeAs; rw [List.append_assoc]; rfl
  have okf : ∀ (i : Nat) (f : FrameV), (recFrames ws)[i]? = some f → (S.rec_ f).Ok := by
    intro i f hi
    obtain ⟨_, _, k3 | ⟨k, x, k3, k4⟩⟩ := frames_cases hi
    · subst k3; exact ⟨hl.gen2, hrec, by show (ws.map (·.1)).length < _; rw [List.length_map]; omega⟩
    · subst k4; exact ⟨hl.gen2, hrec, by show k < _; omega⟩
  -- what a frame of the first part says is nothing new
  have oldf : ∀ (i : Nat) (f : FrameV), (recFrames ws)[i]? = some f → Old S.gen S.records (S.rec_ f).sector ∧ ∀ f', reads (S.rec_ f).sector = some f' → f'.gen ≤ S.gen := by
    intro i f hi
    have e := reads_sector (okf i f hi)
    have hk := (frames_cases hi).2.1
    constructor
    · intro f' hf'; rw [e] at hf'; cases hf'; exact .inr ⟨rfl, .inr ⟨rfl, hk⟩⟩
    · intro f' hf'; rw [e] at hf'; cases hf'; exact Nat.le_refl _
  have touch1 : ∀ m' : Int → Sec, (∀ j : Nat, j < 2 + S.log + S.pages → m' (j : Int) = S.disk.at_ (j : Int) ∨ DAct.write (j : Int) (m' (j : Int)) ∈ S.putsA (2 + S.used) (recFrames ws)) → Lay true m' S now := by
    intro m' hm'
    refine hl.touch fun j hj => ?_
    rcases hm' j hj with k | k
    · exact .inl k
    · obtain ⟨i, f, k1, k2, k3⟩ := mem_puts k
      have := (frames_cases k1).1
      rw [k3]
      exact .inr (.inl ⟨S.used + i, by omega, by omega, by omega, oldf i f k1⟩)
  rcases DiskS.seg h.alive h.dok h.size.symm h.still (S.putsA (2 + S.used) (recFrames ws)) inA1 with ⟨a1, a2, a3, a4, a5, a6, a7⟩ | ⟨a1, a2, a3, a4, a5, a6⟩
  · have eA : S.disk.acts (S.writeAs ws) = (S.disk.acts (S.putsA (2 + S.used) (recFrames ws) ++ [.flush])).2.acts (S.putsA (3 + S.used + ws.length) [frame4 ws.length] ++ [.flush]) := by
      rw [eW, DiskS.acts_append, if_pos a1]
    generalize (S.disk.acts (S.putsA (2 + S.used) (recFrames ws) ++ [.flush])).2 = D1 at a2 a3 a4 a5 a6 a7 eA
    have at1 : ∀ j : Nat, j < 2 + S.log + S.pages → D1.at_ (j : Int) = DiskS.layA S.disk.at_ (S.putsA (2 + S.used) (recFrames ws)) (j : Int) := fun j hj => a6 _ (by omega) (by omega)
    have at2 : ∀ j : Nat, j < 2 + S.log + S.pages → D1.at_ (j : Int) = match (recFrames ws)[((j : Int) - ((2 + S.used : Nat) : Int)).toNat]? with | some x => if ((2 + S.used : Nat) : Int) ≤ (j : Int) then (S.rec_ x).sector else S.disk.at_ (j : Int) | none => S.disk.at_ (j : Int) := fun j hj => by
      exact (at1 j hj).trans (layA_puts S (recFrames ws) (2 + S.used) S.disk.at_ (j : Int))
    have at3 : ∀ (i : Nat) (f : FrameV), (recFrames ws)[i]? = some f → D1.at_ ((2 + S.used + i : Nat) : Int) = (S.rec_ f).sector := fun i f hi => by
      have := (frames_cases hi).1
      rw [at2 _ (by omega), show (((2 + S.used + i : Nat) : Int) - ((2 + S.used : Nat) : Int)).toNat = i by omega, hi]
      simp only
      rw [if_pos (by omega)]
    have at4 : ∀ j : Nat, j < 2 + S.log + S.pages → (j < 2 + S.used ∨ 2 + S.used + ws.length + 1 ≤ j) → D1.at_ (j : Int) = S.disk.at_ (j : Int) := fun j hj hh => by
      rw [at2 j hj]
      split
      · rename_i x hx
        by_cases hc : ((2 + S.used : Nat) : Int) ≤ (j : Int)
        · have := (frames_cases hx).1
          omega
        · rw [if_neg hc]
      · rfl
    have lay1 : Lay true D1.at_ S now := touch1 D1.at_ fun j hj => by
      by_cases hc : j < 2 + S.used ∨ 2 + S.used + ws.length + 1 ≤ j
      · exact .inl (at4 j hj hc)
      · refine .inr ?_
        have hi : j - (2 + S.used) < (recFrames ws).length := by rw [length_frames]; omega
        have hg := List.getElem?_eq_getElem hi
        have := at3 _ _ hg
        rw [show 2 + S.used + (j - (2 + S.used)) = j by omega] at this
        rw [this]
        have key : ∀ (fs : List FrameV) (pl i : Nat) (f : FrameV), fs[i]? = some f → DAct.write ((pl + i : Nat) : Int) (S.rec_ f).sector ∈ S.putsA pl fs := by
          intro fs
          induction fs with
          | nil => intro pl i f h; cases h
          | cons y fs ih =>
            intro pl i f h
            rw [putsA]
            cases i with
            | zero => cases h; exact List.mem_cons_self ..
            | succ i =>
              rw [show pl + (i + 1) = pl + 1 + i by omega]
              exact List.mem_cons_of_mem _ (ih (pl + 1) i f h)
        have := key (recFrames ws) (2 + S.used) _ _ hg
        rw [show 2 + S.used + (j - (2 + S.used)) = j by omega] at this
        exact this
    -- the record is whole when its end lies there
    have whole : ∀ m' : Int → Sec, m' ((3 + S.used + ws.length : Nat) : Int) = (S.rec_ (frame4 ws.length)).sector → (∀ j : Nat, j < 2 + S.log + S.pages → j ≠ 3 + S.used + ws.length → m' (j : Int) = D1.at_ (j : Int)) → Lay true m' (S.took ws) (putNow now ws) := by
      intro m' k1 k2
      have r : LiesR m' S ws := by
        refine ⟨hf.n1, hf.n2, hf.room, hf.lt, hf.nodup, ?_, fun k q hk => ?_, k1⟩
        · rw [k2 _ (by omega) (by omega)]
          exact at3 0 _ (frames_zero ws)
        · have hkl := (List.getElem?_eq_some_iff.1 hk).1
          rw [k2 _ (by omega) (by omega), show 3 + S.used + k = 2 + S.used + (k + 1) by omega]
          exact at3 (k + 1) _ (frames_succ hk)
      refine Lay.took lay1 r fun j hj => ?_
      by_cases e : j = 3 + S.used + ws.length
      · exact .inr ⟨1 + S.used + ws.length, by omega, by omega, by omega⟩
      · exact .inl (k2 j hj e)
    have memB : ∀ {j : Int} {s : Sec}, DAct.write j s ∈ S.putsA (3 + S.used + ws.length) [frame4 ws.length] ++ [.flush] → j = ((3 + S.used + ws.length : Nat) : Int) ∧ s = (S.rec_ (frame4 ws.length)).sector := by
      intro j s hm
      obtain ⟨i, f, k1, k2, k3⟩ := mem_puts (write_flush hm)
      cases i with
      | zero => cases k1; exact ⟨k2, k3⟩
      | succ i => cases k1
    rcases DiskS.seg a2 a3 a5 a4 (S.putsA (3 + S.used + ws.length) [frame4 ws.length]) inB1 with ⟨b1, b2, b3, b4, b5, b6, b7⟩ | ⟨b1, b2, b3, b4, b5, b6⟩
    · have eS : S.write ws = (0, { S with disk := (S.disk.acts (S.writeAs ws)).2 }.took ws) := by
        unfold LogS.write; rw [if_neg (by rw [eA, b1]; simp)]
      rw [eA] at eS
      generalize (D1.acts (S.putsA (3 + S.used + ws.length) [frame4 ws.length] ++ [.flush])).2 = D2 at b2 b3 b4 b5 b6 b7 eS
      rw [eS]
      have l2 : Lay true D2.at_ (S.took ws) (putNow now ws) := by
        refine whole D2.at_ ?_ fun j hj hne => ?_
        · rw [b6 _ (by omega) (by omega)]
          show (if _ = _ then _ else _) = _
          rw [if_pos rfl]
        · rw [b6 _ (by omega) (by omega)]
          refine DiskS.layA_not _ _ _ fun t ht => ?_
          have := (memB (List.mem_append_left _ ht)).1
          omega
      exact .inl ⟨rfl, ⟨l2.on D2, b3, b4, b2, h.live, b5.symm⟩, rfl, rfl, rfl, fun h => b7 (a7 h)⟩
    · have eS : S.write ws = ((S.disk.acts (S.writeAs ws)).1, S.told (S.disk.acts (S.writeAs ws))) := by
        unfold LogS.write; rw [if_pos (by rw [eA, b1]; decide)]
      rw [eA] at eS
      rw [eS]
      refine .inr ⟨b1, ?_, rfl, rfl, fun h => b5 (a7 h), ?_⟩
      · show (S.dead || (_ == (6 : Int))) = true
        rw [b1]; simp
      · show Left true S.log S.pages S.gen (D1.acts _).2 _
        refine Left.of b6 b2 b3 b4 rfl fun m' hm' => ?_
        by_cases hn : m' ((3 + S.used + ws.length : Nat) : Int) = (S.rec_ (frame4 ws.length)).sector
        · refine ⟨S.took ws, putNow now ws, .inr rfl, whole m' hn fun j hj hne => ?_, rfl, rfl, Nat.le_refl _⟩
          rcases hm' j hj with k | k
          · exact k
          · have := (memB k).1; omega
        · refine ⟨S, now, .inl rfl, lay1.congr fun j hj => ?_, rfl, rfl, Nat.le_refl _⟩
          rcases hm' j hj with k | k
          · exact k
          · obtain ⟨k1, k2⟩ := memB k
            have : j = 3 + S.used + ws.length := by omega
            subst this
            exact absurd k2 hn
  · have eA : S.disk.acts (S.writeAs ws) = S.disk.acts (S.putsA (2 + S.used) (recFrames ws) ++ [.flush]) := by
      rw [eW, DiskS.acts_append, if_neg (by rw [a1]; decide)]
    have eS : S.write ws = ((S.disk.acts (S.writeAs ws)).1, S.told (S.disk.acts (S.writeAs ws))) := by
      unfold LogS.write; rw [if_pos (by rw [eA, a1]; decide)]
    rw [eA] at eS
    rw [eS]
    refine .inr ⟨a1, ?_, rfl, rfl, a5, ?_⟩
    · show (S.dead || (_ == (6 : Int))) = true
      rw [a1]; simp
    · show Left true S.log S.pages S.gen (S.disk.acts _).2 _
      refine Left.of a6 a2 a3 a4 rfl fun m' hm' => ⟨S, now, .inl rfl, touch1 m' fun j hj => ?_, rfl, rfl, Nat.le_refl _⟩
      rcases hm' j hj with k | k
      · exact .inl k
      · exact .inr (write_flush k)
end LogS
end Go.Cib
/-
  A log that is sound, plain: Commit, Open and Read as its users see them; no Go in it.
-/
namespace Go.Cib
open Go Go.RowKit
namespace LogS
theorem Sound.commit {S : LogS} {now : Nat → Page} (h : Sound true S now) (hg : S.gen + 1 < 18446744073709551616) (w : List (Int × Page)) :
    (S.may w ≠ 0 ∧ S.commit w = (S.may w, S)) ∨
    (S.may w = 0 ∧ (S.commit w).1 = 0 ∧ Sound true (S.commit w).2 (putNow now (nats w)) ∧ (S.commit w).2.log = S.log ∧ (S.commit w).2.pages = S.pages ∧ (S.commit w).2.gen ≤ S.gen + 1 ∧ (S.disk.armed = 0 → (S.commit w).2.disk.armed = 0)) ∨
    (S.may w = 0 ∧ (S.commit w).1 = 6 ∧ (S.commit w).2.dead = true ∧ (S.commit w).2.log = S.log ∧ (S.commit w).2.pages = S.pages ∧ S.disk.armed ≠ 0 ∧ Left true S.log S.pages (S.gen + 1) (S.commit w).2.disk (fun n => n = now ∨ n = putNow now (nats w))) := by
  by_cases hm : S.may w = 0
  · refine .inr ?_
    by_cases hw : w = []
    · have e : S.commit w = (0, S) := by
        unfold LogS.commit; rw [if_neg (by simp [hm]), if_pos hw]
      rw [e]
      refine .inl ⟨hm, rfl, ?_, rfl, rfl, Nat.le_succ _, fun h => h⟩
      rw [hw]; exact h
    · obtain ⟨_, k2, k3, k4, k5⟩ := nats_cast hm
      have hlen : (nats w).length = w.length := by unfold nats; simp
      have hpos : 1 ≤ w.length := by cases w with | nil => exact absurd rfl hw | cons _ _ => simp
      by_cases hc : S.log < S.used + w.length + 2
      · have e : S.commit w = if S.checkpoint.1 ≠ 0 then S.checkpoint else S.checkpoint.2.write (nats w) := by
          unfold LogS.commit; rw [if_neg (by simp [hm]), if_neg hw, if_neg (by simp [h.live]), if_pos hc]
        rcases h.checkpoint hg with ⟨a1, a2, a3, a4, a5, a6, a7, _⟩ | ⟨a1, a2, a3, a4, a5, a6⟩
        · rw [if_neg (by simp [a1])] at e
          rw [e]
          have fit : Fit S.checkpoint.2 (nats w) := ⟨by omega, by omega, by omega, by rw [a4]; exact k2, k5⟩
          rcases a2.write fit with ⟨b1, b2, b3, b4, b5, b6⟩ | ⟨b1, b2, b3, b4, b5, b6⟩
          · exact .inl ⟨hm, b1, b2, b3.trans a3, b4.trans a4, by omega, fun h => b6 (a7 h)⟩
          · refine .inr ⟨hm, b1, b2, b3.trans a3, b4.trans a4, fun h => b5 (a7 h), ?_⟩
            rw [← a3, ← a4]
            exact b6.imp (fun _ h => h) a5
        · rw [if_pos (by rw [a1]; decide)] at e
          rw [e]
          exact .inr ⟨hm, a1, a2, a3, a4, a5, a6.imp (fun _ h => .inl h) (Nat.le_refl _)⟩
      · have e : S.commit w = S.write (nats w) := by
          unfold LogS.commit; rw [if_neg (by simp [hm]), if_neg hw, if_neg (by simp [h.live]), if_neg hc]
        rw [e]
        rcases h.write (ws := nats w) ⟨by omega, by omega, by omega, k2, k5⟩ with ⟨b1, b2, b3, b4, b5, b6⟩ | ⟨b1, b2, b3, b4, b5, b6⟩
        · exact .inl ⟨hm, b1, b2, b3, b4, by omega, b6⟩
        · exact .inr ⟨hm, b1, b2, b3, b4, b5, b6.imp (fun _ h => h) (Nat.le_succ _)⟩
  · refine .inl ⟨hm, ?_⟩
    unfold LogS.commit; rw [if_pos hm]
/-- The head that is found. -/
theorem heads_gen {D : DiskS} {k h g : Nat} (hd : D.dead = false) (hl : 2 + k + h = D.lasts.length) (k3 : 3 ≤ k) (k4 : k ≤ 4000) (h1 : 1 ≤ h) (h2 : h ≤ 16384) (g1 : 1 ≤ g) (g2 : g < 18446744073709551616)
    (hh : D.at_ ((g % 2 : Nat) : Int) = (⟨1, g, 0, 0, numsPage [k, h]⟩ : FrameV).sector) (ho : ∀ f, reads (D.at_ (((g + 1) % 2 : Nat) : Int)) = some f → f.gen < g) :
    heads D = ⟨D, k, h, g, 0, 0, fun _ => none, false⟩ := by
  have r0 : (D.read 0).1 = D.at_ 0 := by unfold DiskS.read; rw [if_pos (DiskS.may_in hd (by decide) (by omega))]
  have r1 : (D.read 1).1 = D.at_ 1 := by unfold DiskS.read; rw [if_pos (DiskS.may_in hd (by decide) (by omega))]
  unfold heads
  rw [r0, r1]
  rcases Nat.mod_two_eq_zero_or_one g with e | e
  · have e2 : (g + 1) % 2 = 1 := by omega
    rw [e] at hh
    rw [e2] at ho
    change D.at_ 0 = _ at hh
    change ∀ f, reads (D.at_ 1) = some f → f.gen < g at ho
    rw [hh, chooses_of (S := blank D) (g := g) (log := k) (pages := h) (by show 0 < g; omega) g2 e k3 k4 h1 h2 hl]
    unfold chooses
    rw [if_neg]
    · rfl
    · rintro ⟨c1, c2⟩
      have := ho (parse (D.at_ 1)) (by unfold reads; rw [if_pos c1])
      have c3 : g < (parse (D.at_ 1)).gen := c2.2.2.2.1
      omega
  · have e2 : (g + 1) % 2 = 0 := by omega
    rw [e] at hh
    rw [e2] at ho
    change D.at_ 1 = _ at hh
    change ∀ f, reads (D.at_ 0) = some f → f.gen < g at ho
    have hk := chooses_keep (blank D) 0 (D.at_ 0)
    have hlt : ((blank D).chooses 0 (D.at_ 0)).gen < g := by
      unfold chooses
      split
      · rename_i c
        exact ho (parse (D.at_ 0)) (by unfold reads; rw [if_pos c.1])
      · show 0 < g; omega
    generalize (blank D).chooses 0 (D.at_ 0) = L at hk hlt
    obtain ⟨l1, l2, l3, l4, l5⟩ := hk
    rw [hh, chooses_of (S := L) (g := g) (log := k) (pages := h) hlt g2 e k3 k4 h1 h2 (by rw [l1]; exact hl)]
    cases L
    simp only at l1 l2 l3 l4 l5
    subst l1 l2 l3 l4 l5
    rfl
theorem Lay.stop {m : Int → Sec} {S : LogS} {now : Nat → Page} (h : Lay true m S now) (hm : ∀ p, p < S.log → S.disk.at_ ((2 + p : Nat) : Int) = m ((2 + p : Nat) : Int)) : S.record = none := by
  unfold record
  rw [if_neg]
  rintro ⟨_, _, _, _, _, _, k4, _⟩
  unfold atOk at k4
  simp only [Bool.and_eq_true, decide_eq_true_eq] at k4
  obtain ⟨⟨⟨⟨c1, c2⟩, c3⟩, c4⟩, c5⟩ := k4
  have hp0 : S.used ≤ S.used + 1 + (S.atF S.used).idx := by omega
  generalize S.used + 1 + (S.atF S.used).idx = p at c1 c2 c3 c4 c5 hp0
  by_cases hp : S.used ≤ p
  · have z := h.zone rfl p hp c1
    unfold atF at c3 c4 c5
    rw [if_pos c1] at c3 c4 c5
    rw [hm p c1] at c2 c3 c4 c5
    rcases z (parse (m ((2 + p : Nat) : Int))) (by unfold reads; rw [if_pos c2]) with z | ⟨_, z | ⟨_, z⟩⟩
    · omega
    · omega
    · exact z c3
  · exact hp hp0
/-- Open finds the log, or the power goes in it. -/
theorem Sound.opens {z : Bool} {S : LogS} {now : Nat → Page} (h : Sound z S now) (hr : S.record = none) (hg : S.gen + 1 < 18446744073709551616) :
    (LogS.opens S.disk = (0, some S.checkpoint.2, S.checkpoint.2.disk) ∧ S.checkpoint.1 = 0) ∨ (LogS.opens S.disk = (6, none, S.checkpoint.2.disk) ∧ S.checkpoint.1 = 6) := by
  have hl := h.lay
  have e0 : (S.disk.read 0).2 = 0 := by unfold DiskS.read; rw [if_pos (DiskS.may_in h.alive (by decide) (by have := h.size; omega))]
  have e1 : (S.disk.read 1).2 = 0 := by unfold DiskS.read; rw [if_pos (DiskS.may_in h.alive (by decide) (by have := h.size; omega))]
  have hh : heads S.disk = { S.cleared with dead := false } := heads_gen h.alive h.size hl.log3 hl.log4 hl.pages1 hl.pages2 hl.gen1 hl.gen2 hl.head hl.other
  have hS : { S with dead := false } = S := by cases S; have := h.live; simp only at this; subst this; rfl
  have hruns : (heads S.disk).runs (heads S.disk).log = S := by
    obtain ⟨rs, hrs⟩ := hl.recs
    rw [hS] at hrs
    rw [hh]
    have g := hrs.grow
    have ok : ({ S.cleared with dead := false } : LogS).Ok := h.ok.cleared.dead false
    refine Lies.runs ok (rs := rs) hrs hr _ ?_
    have := g.2.1
    have hu := hl.used
    show rs.length ≤ S.log
    change 0 + rs.length ≤ S.used at this
    omega
  have hg0 : ¬ (heads S.disk).gen = 0 := by
    rw [hh]; show ¬ S.gen = 0; have := hl.gen1; omega
  have eO : LogS.opens S.disk = if S.checkpoint.1 ≠ 0 then (S.checkpoint.1, none, S.checkpoint.2.disk) else (0, some S.checkpoint.2, S.checkpoint.2.disk) := by
    unfold LogS.opens
    rw [if_neg (not_not_intro e0), if_neg (not_not_intro e1), if_neg hg0, hruns]
  rcases h.checkpoint hg with ⟨a1, _⟩ | ⟨a1, _⟩
  · rw [eO, if_neg (by simp [a1])]; exact .inl ⟨rfl, a1⟩
  · rw [eO, if_pos (by rw [a1]; decide), a1]; exact .inr ⟨rfl, rfl⟩
/-- What lies on a disk is opened. -/
theorem Found.opens {k h g : Nat} {D : DiskS} {now : Nat → Page} (f : Found true k h g D now) (hg : g + 1 < 18446744073709551616) :
    (∃ T : LogS, LogS.opens D = (0, some T, T.disk) ∧ Sound true T now ∧ T.log = k ∧ T.pages = h ∧ T.gen ≤ g + 1 ∧ (D.armed = 0 → T.disk.armed = 0)) ∨
    (∃ E : DiskS, LogS.opens D = (6, none, E) ∧ D.armed ≠ 0 ∧ Left true k h (g + 1) E (· = now)) := by
  obtain ⟨S, rfl, hs, rfl, rfl, hle⟩ := f
  have hstop : S.record = none := hs.lay.stop fun p _ => rfl
  rcases hs.checkpoint (by omega) with ⟨a1, a2, a3, a4, a5, a6, a7, _⟩ | ⟨a1, a2, a3, a4, a5, a6⟩
  · rcases hs.opens hstop (by omega) with ⟨b1, _⟩ | ⟨_, b2⟩
    · exact .inl ⟨S.checkpoint.2, b1, a2, a3, a4, by omega, a7⟩
    · omega
  · rcases hs.opens hstop (by omega) with ⟨_, b2⟩ | ⟨b1, _⟩
    · omega
    · exact .inr ⟨_, b1, a5, a6.imp (fun _ h => h) (by omega)⟩
/-- What is read. -/
theorem Sound.read {z : Bool} {S : LogS} {now : Nat → Page} (h : Sound z S now) {p : Nat} (hp : p < S.pages) : S.read (p : Int) = ((now p, 0), S) := by
  have hl := h.lay
  unfold LogS.read
  rw [if_neg (by simp [h.live]), if_neg (by omega)]
  cases ho : S.over (p : Int) with
  | some x => rw [hl.over p hp x ho]
  | none =>
    obtain ⟨T, t1, t2⟩ := hl.homes p hp ho
    have hr : S.disk.read (2 + S.log + p) = (S.disk.at_ ((2 + S.log + p : Nat) : Int), 0) := by
      have hs := h.size
      have := DiskS.may_in h.alive (i := ((2 + S.log + p : Nat) : Int)) (by omega) (by omega)
      unfold DiskS.read
      rw [show (2 + (S.log : Int) + (p : Int)) = ((2 + S.log + p : Nat) : Int) by omega, if_pos this]
    simp only [hr, t2, Int.toNat_natCast]
    rw [if_neg (by simp), pageOf_home (S := T) (now p) t1 (by have := hl.pages2; omega)]
theorem Sound.read_out {z : Bool} {S : LogS} {now : Nat → Page} (h : Sound z S now) {p : Int} (hp : p < 0 ∨ (S.pages : Int) ≤ p) : S.read p = ((Arr.zero, 2), S) := by
  unfold LogS.read
  rw [if_neg (by simp [h.live]), if_pos hp]
end LogS
end Go.Cib
/-
  A fresh log: the walk of ciboriumlaw08.begun.
-/
namespace Go.Cib
open Go Go.RowKit
namespace BegunP
variable {k h : Nat}
theorem lay1 (f : Fits k h) : LogS.Lay true (D1 k h).at_ (S1 k h) (fun _ => Arr.zero) := by
  obtain ⟨f1, f2, f3, f4⟩ := id f
  refine ⟨f1, f2, f3, by show h ≤ 16384; omega, Nat.zero_le _, Nat.zero_le _, fun i x hx => (by cases hx), (by show 1 ≤ 1; decide), (by show 1 < 18446744073709551616; decide), z1 f, ?_, ⟨[], rfl⟩, ?_, ?_, ?_, fun p _ x hx => (by cases hx)⟩
  · intro g hg
    have e0 : (S1 k h).gen = 1 := rfl
    rw [e0, show (((1 + 1) % 2 : Nat) : Int) = 0 from rfl] at hg
    have e1 : (D1 k h).at_ 0 = Arr.zero := z0 f
    rw [e1, reads_zero] at hg
    cases hg
  · intro p hp g hg
    change p < k at hp
    rw [at1 f _ (by omega), if_neg (by omega), if_neg (by omega), reads_zero] at hg; cases hg
  · intro _ p _ hp g hg
    change p < k at hp
    rw [at1 f _ (by omega), if_neg (by omega), if_neg (by omega), reads_zero] at hg; cases hg
  · intro p hp _
    change p < h at hp
    refine ⟨L0 k h, (by show 1 < 18446744073709551616; decide), ?_⟩
    show (D1 k h).at_ ((2 + k + p : Nat) : Int) = _
    rw [at1 f _ (by omega), if_neg (by omega), if_pos (by omega), show 2 + k + p - (2 + k) = p by omega]
theorem sound1 (f : Fits k h) : LogS.Sound true (S1 k h) (fun _ => Arr.zero) := by
  obtain ⟨_, hc, hl, hw, _⟩ := fmt f
  exact ⟨lay1 f, hc.ok, hw, hc.dead, rfl, hl.symm⟩
theorem free1 (f : Fits k h) (p : Nat) (hp : p < k) : (D1 k h).at_ ((2 + p : Nat) : Int) = Arr.zero := by
  rw [at1 f _ (by omega), if_neg (by omega), if_neg (by omega)]
theorem armed1 (f : Fits k h) : (S1 k h).disk.armed = 0 := (fmt f).2.1.armed
end BegunP
end Go.Cib
namespace Go.Proofs.Ythbaipljlbddcaa
open Go.RowKit Go.Cib
open BegunP
/-- The place that tidy makes. -/
theorem tidy_place (s l : Int) : ∃ k h : Nat, tidyLog l = (k : Int) ∧ tidySec s l = ((2 + k + h : Nat) : Int) ∧ Fits k h ∧ k ≤ 22 ∧ h ≤ 20 := by
  obtain ⟨l0, l1, _, _⟩ := mod20 l
  obtain ⟨s0, s1, _, _⟩ := mod20 s
  unfold tidyLog tidySec tidyLog
  generalize (l.tmod 20 + 20).tmod 20 = a at *
  generalize (s.tmod 20 + 20).tmod 20 = b at *
  refine ⟨(3 + a).toNat, (1 + b).toNat, by omega, by omega, ⟨by omega, by omega, by omega, by omega⟩, by omega, by omega⟩
theorem begun_any (w : World) (s l : Int) {k h : Nat} (hk : tidyLog l = (k : Int)) (hs : tidySec s l = ((2 + k + h : Nat) : Int)) (f : Fits k h) : Calls Try.prog 9 #[.agg #[.int .i64 s, .int .i64 l]] w fun e w' =>
    ∃ g d L M V, e = .returned (.tuple #[.pointer (some ⟨d, 0, none⟩), .pointer (some ⟨g, 0, none⟩)]) ∧ LogAt w' g d L M V (S1 k h) ∧ (S1 k h).Ok ∧ Tch [] w w' ∧ w.heap.size ≤ d ∧ w.heap.size ≤ L ∧ w.heap.size ≤ M ∧ w.heap.size ≤ g ∧ w.heap.size ≤ V := by
  obtain ⟨f1, f2, f3, f4⟩ := id f
  go_enter Try.func9, Try.ntmps9
  have t0 : Tch [] w (w.alloc (.cells #[.int .i64 s, .int .i64 l] 23)) := (Tch.refl _ _).alloc _
  have b0 : (w.alloc (.cells #[.int .i64 s, .int .i64 l] 23)).heap[w.heap.size]? = some (.cells #[.int .i64 s, .int .i64 l] 23) := heap_alloc_new _ _
  have c0 : (w.alloc (.cells #[.int .i64 s, .int .i64 l] 23)).cell? ⟨w.heap.size, 0, none⟩ = some (.int .i64 s) := by simp
  have c1 : (w.alloc (.cells #[.int .i64 s, .int .i64 l] 23)).cell? ⟨w.heap.size, 1, none⟩ = some (.int .i64 l) := by simp
  have T0 := Lib.hid t0
  clear t0 b0
  go_upto_region 2 with fail
  generalize w.alloc (.cells #[.int .i64 s, .int .i64 l] 23) = w1 at *
  have Z0 : Hid (w.heap.size ≤ w1.heap.size) := T0.out.size
  generalize w.heap.size = B at *
  go_wp2_with fail
  refine (tidy_any _ s l).mono ?_
  rintro e w2 ⟨rfl, t2⟩
  rw [hk, hs]
  have T2 := Lib.hid (T0.out.trans t2)
  clear t2 c0 c1 T0
  go_wp2_with fail
  refine (new_any w2 (2 + k + h) (by omega) (by omega)).mono ?_
  rintro e w3 ⟨d, L, M, rfl, h3, t3, n1, n2, n3⟩
  have H3 : Hid (DiskAt w3 d L M (D0 k h)) := h3
  have T3 := Lib.hid (T2.out.trans t3)
  have N1 := Lib.hid (Nat.le_trans T2.out.size n1)
  have N2 := Lib.hid (Nat.le_trans T2.out.size n2)
  have N3 := Lib.hid (Nat.le_trans T2.out.size n3)
  clear h3 t3 n1 n2 n3 T2
  go_wp2_with fail
  refine (format_any H3.out (k : Int)).mono ?_
  rintro e w4 ⟨rfl, h4, t4⟩
  rw [(fmt f).1]
  have H4 : Hid (DiskAt w4 d L M (D1 k h)) := h4
  have T4 := Lib.hid (tch_own T3.out t4 (by have a := N1.out; have b := N2.out; have c := N3.out; simp [a, b, c]))
  clear h4 t4 H3 T3
  go_wp2_with fail
  refine (open_ok H4.out (open1 f)).mono ?_
  rintro e w5 ⟨g, V, rfl, h5, o5, t5, g5, v5⟩
  have H5 := Lib.hid h5
  have O5 := Lib.hid o5
  have T5 := Lib.hid (tch_own T4.out t5 (by have a := N1.out; have b := N2.out; have c := N3.out; simp [a, b, c]))
  have G5 := Lib.hid (Nat.le_trans T4.out.size g5)
  have V5 := Lib.hid (Nat.le_trans T4.out.size v5)
  clear h5 o5 t5 g5 v5 H4 T4
  go_wp2_with (go_at_call 26; refine (pages_any H5.out).mono ?_; rintro e w' ⟨rfl, rfl⟩; rw [show (if (S1 k h).dead = true then (0 : Int) else ((S1 k h).pages : Int)) = (h : Int) from rfl])
  go_ret2
  exact ⟨g, d, L, M, V, rfl, H5.out, O5.out, T5.out, by have := Z0.out; have := N1.out; omega, by have := Z0.out; have := N2.out; omega, by have := Z0.out; have := N3.out; omega, by have := Z0.out; have := G5.out; omega, by have := Z0.out; have := V5.out; omega⟩
end Go.Proofs.Ythbaipljlbddcaa
/-
  Two logs to which the same is committed, plain: both tell the same, opened anew or not.
-/
namespace Go.Cib
open Go Go.RowKit
namespace LogS
/-- Two sound logs of the same pages; n bounds their generations. -/
structure Twin (k h n : Nat) (A B : LogS) (now : Nat → Page) : Prop where
  a : Sound true A now
  b : Sound true B now
  ka : A.log = k
  kb : B.log = k
  ha : A.pages = h
  hb : B.pages = h
  ga : A.gen ≤ n
  gb : B.gen ≤ n
  ra : A.disk.armed = 0
  rb : B.disk.armed = 0
theorem may_congr {A B : LogS} (h1 : A.log = B.log) (h2 : A.pages = B.pages) (w : List (Int × Page)) : A.may w = B.may w := by
  unfold may; rw [h1, h2]
/-- A Commit of a log whose disk is calm. -/
theorem Sound.commit_calm {S : LogS} {now : Nat → Page} (h : Sound true S now) (hg : S.gen + 1 < 18446744073709551616) (ha : S.disk.armed = 0) (w : List (Int × Page)) :
    ∃ T, S.commit w = (S.may w, T) ∧ Sound true T (if S.may w = 0 then putNow now (nats w) else now) ∧ T.log = S.log ∧ T.pages = S.pages ∧ T.gen ≤ S.gen + 1 ∧ T.disk.armed = 0 := by
  rcases h.commit hg w with ⟨h1, h2⟩ | ⟨h1, h2, h3, h4, h5, h6, h7⟩ | ⟨_, _, _, _, _, h6, _⟩
  · exact ⟨S, h2, by rw [if_neg h1]; exact h, rfl, rfl, Nat.le_succ _, ha⟩
  · exact ⟨(S.commit w).2, by rw [h1]; exact Prod.ext h2 rfl, by rw [if_pos h1]; exact h3, h4, h5, h6, h7 ha⟩
  · exact absurd ha h6
/-- An Open of a sound log's disk that is calm. -/
theorem Sound.open_calm {S : LogS} {now : Nat → Page} (h : Sound true S now) (hg : S.gen + 1 < 18446744073709551616) (ha : S.disk.armed = 0) :
    ∃ T, LogS.opens S.disk = (0, some T, T.disk) ∧ Sound true T now ∧ T.log = S.log ∧ T.pages = S.pages ∧ T.gen ≤ S.gen + 1 ∧ T.disk.armed = 0 := by
  have f : Found true S.log S.pages S.gen S.disk now := ⟨S, rfl, h, rfl, rfl, Nat.le_refl _⟩
  rcases f.opens hg with ⟨T, t1, t2, t3, t4, t5, t6⟩ | ⟨E, _, e2, _⟩
  · exact ⟨T, t1, t2, t3, t4, t5, t6 ha⟩
  · exact absurd ha e2
theorem Twin.opens {k h n : Nat} {A B : LogS} {now : Nat → Page} (t : Twin k h n A B now) (hn : n + 1 < 18446744073709551616) : ∃ T, LogS.opens A.disk = (0, some T, T.disk) ∧ Twin k h (n + 1) T B now := by
  obtain ⟨T, t1, t2, t3, t4, t5, t6⟩ := t.a.open_calm (by have := t.ga; omega) t.ra
  exact ⟨T, t1, t2, t.b, t3.trans t.ka, t.kb, t4.trans t.ha, t.hb, by have := t.ga; omega, by have := t.gb; omega, t6, t.rb⟩
theorem Twin.commit {k h n : Nat} {A B : LogS} {now : Nat → Page} (t : Twin k h n A B now) (hn : n + 1 < 18446744073709551616) (w : List (Int × Page)) :
    ∃ e A' B' now', A.commit w = (e, A') ∧ B.commit w = (e, B') ∧ Twin k h (n + 1) A' B' now' := by
  obtain ⟨T, t1, t2, t3, t4, t5, t6⟩ := t.a.commit_calm (by have := t.ga; omega) t.ra w
  obtain ⟨U, u1, u2, u3, u4, u5, u6⟩ := t.b.commit_calm (by have := t.gb; omega) t.rb w
  have e : B.may w = A.may w := may_congr (t.kb.trans t.ka.symm) (t.hb.trans t.ha.symm) w
  rw [e] at u1 u2
  exact ⟨_, T, U, _, t1, u1, t2, u2, t3.trans t.ka, u3.trans t.kb, t4.trans t.ha, u4.trans t.hb, by have := t.ga; omega, by have := t.gb; omega, t6, u6⟩
theorem Twin.mono {k h n m : Nat} {A B : LogS} {now : Nat → Page} (t : Twin k h n A B now) (hm : n ≤ m) : Twin k h m A B now :=
  ⟨t.a, t.b, t.ka, t.kb, t.ha, t.hb, Nat.le_trans t.ga hm, Nat.le_trans t.gb hm, t.ra, t.rb⟩
theorem Sound.read_any {z : Bool} {S : LogS} {now : Nat → Page} (h : Sound z S now) (p : Int) : S.read p = (if 0 ≤ p ∧ p < (S.pages : Int) then (now p.toNat, 0) else (Arr.zero, 2), S) := by
  by_cases hp : 0 ≤ p ∧ p < (S.pages : Int)
  · rw [if_pos hp]
    obtain ⟨n, rfl⟩ : ∃ n : Nat, p = (n : Int) := ⟨p.toNat, by omega⟩
    exact h.read (by omega)
  · rw [if_neg hp]
    exact h.read_out (by omega)
theorem Twin.read {k h n : Nat} {A B : LogS} {now : Nat → Page} (t : Twin k h n A B now) (p : Int) : ∃ v, A.read p = (v, A) ∧ B.read p = (v, B) :=
  ⟨_, t.a.read_any p, by rw [t.b.read_any p, t.ha, t.hb]⟩
theorem Twin.pending {k h n : Nat} {A B : LogS} {now : Nat → Page} (t : Twin k h n A B now) : A.disk.pending = [] := by
  unfold DiskS.pending
  rw [t.a.still]
  simp
end LogS
end Go.Cib
/-
  The ops of a script of layer 8 in memory; places, and scripts as arguments.
-/
namespace Go.Proofs.Ythbaipljlbddcaa
open Go.ChangeShapes Go.WideShapes Go.ChangeAt Go.RowKit Go.Cib
structure Op8V where
  what : Int
  i : Int
  pa : Option Addr
  pcap : Nat
  pages : List Int
  ta : Option Addr
  tcap : Nat
  texts : List ByteArray
def Op8V.val (o : Op8V) : Array Value := #[.int .i64 o.what, .int .i64 o.i, .slice o.pa o.pages.length o.pcap, .slice o.ta o.texts.length o.tcap]
def Op8V.cells (o : Op8V) : Obj := .cells o.val 41
structure Op8At (w : World) (b off : Nat) (o : Op8V) : Prop where
  c0 : w.cell? ⟨b, off, none⟩ = some (.int .i64 o.what)
  c1 : w.cell? ⟨b, off + 1, none⟩ = some (.int .i64 o.i)
  c2 : w.cell? ⟨b, off + 2, none⟩ = some (.slice o.pa o.pages.length o.pcap)
  c3 : w.cell? ⟨b, off + 3, none⟩ = some (.slice o.ta o.texts.length o.tcap)
  pages : PagesAt w o.pa o.pages
  texts : TextsAt w o.ta o.texts
  txt : ∀ s ∈ o.texts, s.size ≤ 9223372036854775807
  len : o.pages.length ≤ 9223372036854775807
  lo : -9223372036854775808 ≤ o.i
  hi : o.i ≤ 9223372036854775807
def Ops8At (w : World) (a : Option Addr) (os : List Op8V) : Prop :=
  ∀ (j : Nat) (o : Op8V), os[j]? = some o → ∃ b off, a = some ⟨b, off, none⟩ ∧ Op8At w b (off + j * 4) o
theorem Op8At.later {w w' : World} {b off : Nat} {o : Op8V} (h : Op8At w b off o) (ht : Tch [] w w') : Op8At w' b off o :=
  ⟨cell_old ht h.c0, cell_old ht h.c1, cell_old ht h.c2, cell_old ht h.c3, h.pages.later ht, h.texts.later ht, h.txt, h.len, h.lo, h.hi⟩
theorem Ops8At.later {w w' : World} {a : Option Addr} {os : List Op8V} (h : Ops8At w a os) (ht : Tch [] w w') : Ops8At w' a os := fun j o hj => by
  obtain ⟨b, off, h1, h2⟩ := h j o hj
  exact ⟨b, off, h1, h2.later ht⟩
/-- An op's images. -/
def Op8V.imgs (o : Op8V) : List (Int × Page) := imgsOf o.pages o.texts
theorem imgs_len (o : Op8V) : o.imgs.length ≤ 200 := by unfold Op8V.imgs imgsOf; rw [List.length_map, List.length_range]; omega
theorem box8_cells {w : World} {X : Nat} {o : Op8V} (h : w.heap[X]? = some o.cells) :
    w.cell? ⟨X, 0, none⟩ = some (.int .i64 o.what) ∧ w.cell? ⟨X, 1, none⟩ = some (.int .i64 o.i) ∧ w.cell? ⟨X, 2, none⟩ = some (.slice o.pa o.pages.length o.pcap) ∧ w.cell? ⟨X, 3, none⟩ = some (.slice o.ta o.texts.length o.tcap) := by
  unfold Op8V.cells Op8V.val at h
  have c0 := cell_of_row w X 0 _ _ _ h
  have c1 := cell_of_row w X 1 _ _ _ h
  have c2 := cell_of_row w X 2 _ _ _ h
  have c3 := cell_of_row w X 3 _ _ _ h
  simp only [List.getElem?_toArray, List.getElem?_cons_zero, List.getElem?_cons_succ] at c0 c1 c2 c3
  exact ⟨c0, c1, c2, c3⟩
theorem images8 {w : World} {b off : Nat} {o : Op8V} (h : Op8At w b off o) {w0 : World} (ht : Tch [] w w0) (dd : Int) :
    Calls Try.prog 10 #[.agg #[.int .i64 dd, .int .i64 o.i, .slice o.pa o.pages.length o.pcap, .slice o.ta o.texts.length o.tcap]] w0 fun e w' => Tch [] w0 w' ∧ ∃ a cap, e = .returned (.slice a o.imgs.length cap) ∧ ImgsAt w' a o.imgs ∧ ∀ b, a = some ⟨b, 0, none⟩ → w0.heap.size ≤ b := by
  refine (images_any dd o.i (h.pages.later ht) (h.texts.later ht) h.txt h.len).mono ?_
  rintro e w' ⟨t, v, rfl, hv⟩
  obtain ⟨a, cap, rfl, h1, h2⟩ := hv.at_
  exact ⟨t, a, cap, rfl, h1, h2⟩
section
variable {H : Type} {enc : TypeId × Value → H} {w : World}
theorem cellsPlace : Try.prog.cellsOf 23 = 2 := by kernel_rfl
set_option maxRecDepth 20000 in
theorem place_of_trod {fuel : Nat} {cs : List Value} {x : DataW H × List MemPlace} (h : DataW.trod enc Try.prog w 0 (fun _ => true) true fuel 23 cs = some x) :
    ∃ (s l : Int), cs = [.int .i64 s, .int .i64 l] := by
  obtain ⟨xs, n, _, _, hl, hlen, hf⟩ := DataW.trod_struct Try.underlying23 h
  rw [cellsPlace] at hl
  match xs, hlen with
  | [y0, y1], _ =>
    match cs, hl with
    | [v0, v1], _ =>
      have g0 : DataW.trod enc Try.prog w 0 (fun _ => true) true n 3 [v0] = some y0 := by simpa [cellsInt] using hf 0 _ rfl
      have g1 : DataW.trod enc Try.prog w 0 (fun _ => true) true n 3 [v1] = some y1 := by simpa [cellsInt] using hf 1 _ rfl
      obtain ⟨a0, e0, _, _⟩ := DataW.trod_int Try.underlying3 g0
      obtain ⟨a1, e1, _, _⟩ := DataW.trod_int Try.underlying3 g1
      simp only [List.cons.injEq, and_true] at e0 e1
      subst e0 e1
      exact ⟨a0, a1, rfl⟩
set_option maxRecDepth 20000 in
/-- One op, with its bounds. -/
theorem op8_of_trod {fuel : Nat} {cs : List Value} {x : DataW H × List MemPlace} (h : DataW.trod enc Try.prog w 0 (fun _ => true) true fuel 41 cs = some x) :
    ∃ o : Op8V, cs = [.int .i64 o.what, .int .i64 o.i, .slice o.pa o.pages.length o.pcap, .slice o.ta o.texts.length o.tcap] ∧ PagesAt w o.pa o.pages ∧ TextsAt w o.ta o.texts ∧ (∀ s ∈ o.texts, s.size ≤ maxLen) ∧ o.pages.length ≤ maxLen ∧ -9223372036854775808 ≤ o.i ∧ o.i ≤ 9223372036854775807 := by
  obtain ⟨xs, n, _, _, hl, hlen, hf⟩ := DataW.trod_struct Try.underlying41 h
  rw [cellsOp] at hl
  match xs, hlen with
  | [y0, y1, y2, y3], _ =>
    match cs, hl with
    | [v0, v1, v2, v3], _ =>
      have g0 : DataW.trod enc Try.prog w 0 (fun _ => true) true n 3 [v0] = some y0 := by simpa [cellsInt] using hf 0 _ rfl
      have g1 : DataW.trod enc Try.prog w 0 (fun _ => true) true n 3 [v1] = some y1 := by simpa [cellsInt] using hf 1 _ rfl
      have g2 : DataW.trod enc Try.prog w 0 (fun _ => true) true n 36 [v2] = some y2 := by simpa [cellsInts] using hf 2 _ rfl
      have g3 : DataW.trod enc Try.prog w 0 (fun _ => true) true n 39 [v3] = some y3 := by simpa [cellsTexts] using hf 3 _ rfl
      obtain ⟨a0, e0, _, _⟩ := DataW.trod_int Try.underlying3 g0
      obtain ⟨a1, e1, _, w1⟩ := DataW.trod_int Try.underlying3 g1
      obtain ⟨a2, l2, c2, e2, h2, h3, _⟩ := ints_of_trod Try.underlying36 Try.underlying3 cellsInt g2
      obtain ⟨a3, l3, c3, e3, h4, _, h5⟩ := texts_of_trod Try.underlying39 Try.underlying9 cellsStr g3
      simp only [List.cons.injEq, and_true] at e0 e1
      subst e0 e1 e2 e3
      simp only [Lit.wf, Bool.and_eq_true, decide_eq_true_eq] at w1
      exact ⟨⟨a0, a1, a2, c2, l2, a3, c3, l3⟩, rfl, h2, h4, h5, h3, w1.1, w1.2⟩
/-- A script. -/
theorem ops8_of_trod {fuel : Nat} {v : Value} {x : DataW H × List MemPlace} (h : DataW.trod enc Try.prog w 0 (fun _ => true) true fuel 24 [v] = some x) :
    ∃ (a : Option Addr) (os : List Op8V) (cap : Nat), v = .slice a os.length cap ∧ Ops8At w a os ∧ os.length ≤ maxLen := by
  rcases Deep.open_slice Try.underlying24 h with ⟨hcs, _⟩ | ⟨a, len, cap, m, n, D, Pl, hcs, _, hl, hm, hmm, _, hel⟩
  · simp at hcs
    exact ⟨none, [], 0, hcs, by intro j x hj; simp at hj, by simp⟩
  · simp at hcs hmm
    rw [cellsOp] at hel
    have hall : ∀ i, i < len → ∃ o : Op8V, w.cells? 0 (a.add (i * 4)) 4 = some [.int .i64 o.what, .int .i64 o.i, .slice o.pa o.pages.length o.pcap, .slice o.ta o.texts.length o.tcap] ∧ PagesAt w o.pa o.pages ∧ TextsAt w o.ta o.texts ∧ (∀ s ∈ o.texts, s.size ≤ maxLen) ∧ o.pages.length ≤ maxLen ∧ -9223372036854775808 ≤ o.i ∧ o.i ≤ 9223372036854775807 := by
      intro i hi
      obtain ⟨cs', h1, h2⟩ := hel i (by omega)
      obtain ⟨o, rfl, h3⟩ := op8_of_trod h2
      exact ⟨o, h1, h3⟩
    haveI : Inhabited Op8V := ⟨⟨0, 0, none, 0, [], none, 0, []⟩⟩
    obtain ⟨f, hf⟩ := Deep.choose_lt hall
    refine ⟨some a, (List.range len).map f, cap, by simpa using hcs, fun j o hj => ?_, by simp; omega⟩
    have hjl := (List.getElem?_eq_some_iff.1 hj).1
    simp only [List.length_map, List.length_range] at hjl
    have ho : f j = o := by simpa [hjl] using hj
    obtain ⟨h1, h2, h3, h4, h5, h6, h7⟩ := hf j hjl
    rw [ho] at h1 h2 h3 h4 h5 h6 h7
    obtain ⟨_, hc⟩ := cells_get h1
    obtain ⟨_, hc0⟩ := cells_get (hf 0 (by omega)).1
    obtain ⟨b, off, hb⟩ := plain_addr (hc0 0 _ rfl)
    simp only [Nat.zero_mul, Addr.add_zero'] at hb
    subst hb
    have k0 := hc 0 _ rfl
    have k1 := hc 1 _ rfl
    have k2 := hc 2 _ rfl
    have k3 := hc 3 _ rfl
    simp only [add_mk, Nat.add_zero] at k0 k1 k2 k3
    refine ⟨b, off, rfl, k0, k1, k2, k3, h2, h3, fun s hs => ?_, ?_, h6, h7⟩
    · have := h4 s hs; unfold maxLen at this; omega
    · unfold maxLen at h5; omega
end
end Go.Proofs.Ythbaipljlbddcaa
/-
  Two logs in memory, and variables of the call's own.
-/
namespace Go.Proofs.Ythbaipljlbddcaa
open Go.RowKit Go.Cib
/-- The blocks of a log lie ahead of the heap's end. -/
theorem LogAt.lt {w : World} {g d L M V : Nat} {S : LogS} (h : LogAt w g d L M V S) : ∀ x ∈ [g, d, L, M, V], x < w.heap.size := by
  intro x hx
  simp only [List.mem_cons, List.not_mem_nil, or_false] at hx
  rcases hx with rfl | rfl | rfl | rfl | rfl
  · exact lt_of_heap h.hg
  · exact lt_of_heap h.hD.hd
  · exact lt_of_heap h.hD.hL
  · exact h.hD.hM.lt
  · exact h.hV.lt
theorem LogAt.far {w w' : World} {g d L M V : Nat} {S : LogS} {K : List Nat} (h : LogAt w g d L M V S) (ht : Tch K w w') (hs : ∀ x ∈ [g, d, L, M, V], x ∉ K) : LogAt w' g d L M V S :=
  h.touch ht (hs g (by simp)) (hs d (by simp)) (hs L (by simp)) (hs M (by simp)) (hs V (by simp))
structure DuoL (w0 w : World) (g1 d1 L1 M1 V1 : Nat) (A : LogS) (g2 d2 L2 M2 V2 : Nat) (B : LogS) (X : List (Nat × Obj)) : Prop where
  a : LogAt w g1 d1 L1 M1 V1 A
  b : LogAt w g2 d2 L2 M2 V2 B
  sep : ∀ x ∈ [g1, d1, L1, M1, V1], x ∉ [g2, d2, L2, M2, V2]
  own : ∀ x ∈ [g1, d1, L1, M1, V1, g2, d2, L2, M2, V2], w0.heap.size ≤ x
  tch : Tch [] w0 w
  box : ∀ q ∈ X, w.heap[q.1]? = some q.2 ∧ q.1 ∉ [g1, d1, L1, M1, V1, g2, d2, L2, M2, V2]
section
variable {w0 w w' : World} {g1 d1 L1 M1 V1 g2 d2 L2 M2 V2 : Nat} {A B C : LogS} {X Y : List (Nat × Obj)}
theorem DuoL.stepA (h : DuoL w0 w g1 d1 L1 M1 V1 A g2 d2 L2 M2 V2 B X) (hA : LogAt w' g1 d1 L1 M1 V1 C) (ht : Tch [g1, d1, L1, M1, V1] w w') : DuoL w0 w' g1 d1 L1 M1 V1 C g2 d2 L2 M2 V2 B X := by
  have hsub : ∀ x ∈ [g1, d1, L1, M1, V1], x ∈ [g1, d1, L1, M1, V1, g2, d2, L2, M2, V2] := fun x hx => by
    have : [g1, d1, L1, M1, V1, g2, d2, L2, M2, V2] = [g1, d1, L1, M1, V1] ++ [g2, d2, L2, M2, V2] := rfl
    rw [this]; exact List.mem_append_left _ hx
  exact ⟨hA, h.b.far ht (fun x hx hm => h.sep x hm hx), h.sep, h.own, tch_own h.tch ht (fun x hx => h.own x (hsub x hx)), fun q hq => ⟨ht.heap (h.box q hq).1 (fun hm => (h.box q hq).2 (hsub _ hm)), (h.box q hq).2⟩⟩
theorem DuoL.stepB (h : DuoL w0 w g1 d1 L1 M1 V1 A g2 d2 L2 M2 V2 B X) (hB : LogAt w' g2 d2 L2 M2 V2 C) (ht : Tch [g2, d2, L2, M2, V2] w w') : DuoL w0 w' g1 d1 L1 M1 V1 A g2 d2 L2 M2 V2 C X := by
  have hsub : ∀ x ∈ [g2, d2, L2, M2, V2], x ∈ [g1, d1, L1, M1, V1, g2, d2, L2, M2, V2] := fun x hx => by
    have : [g1, d1, L1, M1, V1, g2, d2, L2, M2, V2] = [g1, d1, L1, M1, V1] ++ [g2, d2, L2, M2, V2] := rfl
    rw [this]; exact List.mem_append_right _ hx
  exact ⟨h.a.far ht h.sep, hB, h.sep, h.own, tch_own h.tch ht (fun x hx => h.own x (hsub x hx)), fun q hq => ⟨ht.heap (h.box q hq).1 (fun hm => (h.box q hq).2 (hsub _ hm)), (h.box q hq).2⟩⟩
theorem DuoL.same (h : DuoL w0 w g1 d1 L1 M1 V1 A g2 d2 L2 M2 V2 B X) (ht : Tch [] w w') : DuoL w0 w' g1 d1 L1 M1 V1 A g2 d2 L2 M2 V2 B X :=
  ⟨h.a.far ht (by simp), h.b.far ht (by simp), h.sep, h.own, h.tch.trans ht, fun q hq => ⟨ht.heap (h.box q hq).1 (by simp), (h.box q hq).2⟩⟩
theorem DuoL.lt (h : DuoL w0 w g1 d1 L1 M1 V1 A g2 d2 L2 M2 V2 B X) : ∀ x ∈ [g1, d1, L1, M1, V1, g2, d2, L2, M2, V2], x < w.heap.size := by
  intro x hx
  have : [g1, d1, L1, M1, V1, g2, d2, L2, M2, V2] = [g1, d1, L1, M1, V1] ++ [g2, d2, L2, M2, V2] := rfl
  rw [this] at hx
  rcases List.mem_append.1 hx with hx | hx
  · exact h.a.lt x hx
  · exact h.b.lt x hx
theorem DuoL.put (h : DuoL w0 w g1 d1 L1 M1 V1 A g2 d2 L2 M2 V2 B X) (o : Obj) : DuoL w0 (w.alloc o) g1 d1 L1 M1 V1 A g2 d2 L2 M2 V2 B ((w.heap.size, o) :: X) := by
  have ht : Tch [] w (w.alloc o) := (Tch.refl _ _).alloc o
  have hs := h.same ht
  refine ⟨hs.a, hs.b, hs.sep, hs.own, hs.tch, fun q hq => ?_⟩
  rcases List.mem_cons.1 hq with rfl | hq
  · exact ⟨heap_alloc_new _ _, fun hm => Nat.lt_irrefl _ (h.lt _ hm)⟩
  · exact hs.box q hq
theorem DuoL.drop (h : DuoL w0 w g1 d1 L1 M1 V1 A g2 d2 L2 M2 V2 B X) : DuoL w0 w g1 d1 L1 M1 V1 A g2 d2 L2 M2 V2 B [] := ⟨h.a, h.b, h.sep, h.own, h.tch, fun q hq => by cases hq⟩
/-- The first log is opened anew. -/
theorem DuoL.openA {g V : Nat} (h : DuoL w0 w g1 d1 L1 M1 V1 A g2 d2 L2 M2 V2 B X) (hA : LogAt w' g d1 L1 M1 V C) (ht : Tch [d1, L1, M1] w w') (hg : w.heap.size ≤ g) (hv : w.heap.size ≤ V) : DuoL w0 w' g d1 L1 M1 V C g2 d2 L2 M2 V2 B X := by
  have l := h.lt
  have s := h.sep
  have o := h.own
  have hz := h.tch.size
  have e10 : [g1, d1, L1, M1, V1, g2, d2, L2, M2, V2] = [g1, d1, L1, M1, V1] ++ [g2, d2, L2, M2, V2] := rfl
  have hsub : ∀ x ∈ [g2, d2, L2, M2, V2], x ∈ [g1, d1, L1, M1, V1, g2, d2, L2, M2, V2] := fun x hx => by rw [e10]; exact List.mem_append_right _ hx
  have hd : ∀ x ∈ [d1, L1, M1], x ∈ [g1, d1, L1, M1, V1] := fun x hx => by
    simp only [List.mem_cons, List.not_mem_nil, or_false] at hx ⊢
    rcases hx with rfl | rfl | rfl <;> simp
  have hd2 : ∀ x ∈ [d1, L1, M1], x ∈ [g1, d1, L1, M1, V1, g2, d2, L2, M2, V2] := fun x hx => by rw [e10]; exact List.mem_append_left _ (hd x hx)
  have hcase : ∀ x ∈ [g, d1, L1, M1, V], x = g ∨ x = V ∨ x ∈ [d1, L1, M1] := fun x hx => by
    simp only [List.mem_cons, List.not_mem_nil, or_false] at hx ⊢
    rcases hx with rfl | rfl | rfl | rfl | rfl <;> simp
  have f10 : [g, d1, L1, M1, V, g2, d2, L2, M2, V2] = [g, d1, L1, M1, V] ++ [g2, d2, L2, M2, V2] := rfl
  refine ⟨hA, h.b.far ht (fun x hx hm => h.sep x (hd x hm) hx), ?_, ?_, tch_own h.tch ht (fun x hx => o x (hd2 x hx)), fun q hq => ⟨ht.heap (h.box q hq).1 (fun hm => (h.box q hq).2 (hd2 _ hm)), fun hm => ?_⟩⟩
  · intro x hx hm
    have k := l x (hsub x hm)
    rcases hcase x hx with rfl | rfl | hx
    · omega
    · omega
    · exact s x (hd x hx) hm
  · intro x hx
    rw [f10] at hx
    rcases List.mem_append.1 hx with hx | hx
    · rcases hcase x hx with rfl | rfl | hx
      · omega
      · omega
      · exact o x (hd2 x hx)
    · exact o x (hsub x hx)
  · have k1 := (h.box q hq).2
    have k2 := lt_of_heap (h.box q hq).1
    rw [f10] at hm
    rcases List.mem_append.1 hm with hm | hm
    · rcases hcase _ hm with e | e | hm
      · omega
      · omega
      · exact k1 (hd2 _ hm)
    · exact k1 (hsub _ hm)
end
end Go.Proofs.Ythbaipljlbddcaa
/-
  To read, to ask and to open again change no later answer: the walk of WalBlind.
-/
namespace Go.Proofs.Ythbaipljlbddcaa
open Go.RowKit Go.Cib
open BegunP
theorem cf_pending8 (args : Array Value) (w : World) : (callFunc 35 args).run Try.prog w = .ok (.enter 35 args) w := rfl
theorem twin0 {k h : Nat} (f : Fits k h) : LogS.Twin k h 1 (S1 k h) (S1 k h) (fun _ => Arr.zero) := by
  have g : (S1 k h).gen = 1 := rfl
  exact ⟨sound1 f, sound1 f, rfl, rfl, rfl, rfl, by rw [g]; exact Nat.le_refl _, by rw [g]; exact Nat.le_refl _, armed1 f, armed1 f⟩
set_option maxRecDepth 20000 in
set_option maxHeartbeats 4000000 in
theorem walBlind_any (w : World) (s l : Int) (a : Option Addr) (cap : Nat) (os : List Op8V) (ho : Ops8At w a os) (_hlen : os.length ≤ 9223372036854775807) :
    Calls Try.prog 7 #[.agg #[.int .i64 s, .int .i64 l], .slice a os.length cap] w fun e w' => e = .returned (.bool true) ∧ Tch [] w w' := by
  obtain ⟨k, h, hk, hs, f, hk2, hh2⟩ := tidy_place s l
  obtain ⟨f1, f2, f3, f4⟩ := id f
  have t0 : Tch [] w (w.alloc (.cells #[.int .i64 s, .int .i64 l] 23)) := (Tch.refl _ _).alloc _
  have b0 : (w.alloc (.cells #[.int .i64 s, .int .i64 l] 23)).heap[w.heap.size]? = some (.cells #[.int .i64 s, .int .i64 l] 23) := heap_alloc_new _ _
  have T0 := Lib.hid t0
  have B0 := Lib.hid b0
  have HO := Lib.hid ho
  clear t0 b0 ho
  go_enter Try.func7, Try.ntmps7
  go_upto_region 1 with fail
  generalize w.alloc (.cells #[.int .i64 s, .int .i64 l] 23) = w1 at *
  generalize hP : w.heap.size = P0 at B0 ⊢
  have HPS : Hid (w.heap.size ≤ P0) := by show _ ≤ _; omega
  clear hP
  have c0 : w1.cell? ⟨P0, 0, none⟩ = some (.int .i64 s) := by rw [cell_of_row w1 P0 0 _ _ _ B0.out]; rfl
  have c1 : w1.cell? ⟨P0, 1, none⟩ = some (.int .i64 l) := by rw [cell_of_row w1 P0 1 _ _ _ B0.out]; rfl
  go_wp2_with fail
  refine (tidy_any w1 s l).mono ?_
  rintro e w2 ⟨rfl, t2⟩
  rw [hs, hk]
  have T2 := Lib.hid (T0.out.trans t2)
  have B2 := Lib.hid (t2.heap B0.out (by simp))
  clear t2 T0 B0 c0 c1
  have c0 : w2.cell? ⟨P0, 0, none⟩ = some (.int .i64 s) := by rw [cell_of_row w2 P0 0 _ _ _ B2.out]; rfl
  have c1 : w2.cell? ⟨P0, 1, none⟩ = some (.int .i64 l) := by rw [cell_of_row w2 P0 1 _ _ _ B2.out]; rfl
  go_wp2_with fail
  refine (begun_any w2 s l hk hs f).mono ?_
  rintro e w3 ⟨g1, d1, L1, M1, V1, rfl, h3, o3, t3, n1, n2, n3, n4, n5⟩
  have H3 := Lib.hid h3
  have T3 := Lib.hid (T2.out.trans t3)
  have B3 := Lib.hid (t3.heap B2.out (by simp))
  have hown : ∀ x ∈ [g1, d1, L1, M1, V1], w.heap.size ≤ x := by
    have := T2.out.size
    intro x hx
    simp only [List.mem_cons, List.not_mem_nil, or_false] at hx
    rcases hx with rfl | rfl | rfl | rfl | rfl <;> omega
  have OWN1 := Lib.hid hown
  clear h3 o3 t3 n1 n2 n3 n4 n5 hown T2 B2 c0 c1
  have c0 : w3.cell? ⟨P0, 0, none⟩ = some (.int .i64 s) := by rw [cell_of_row w3 P0 0 _ _ _ B3.out]; rfl
  have c1 : w3.cell? ⟨P0, 1, none⟩ = some (.int .i64 l) := by rw [cell_of_row w3 P0 1 _ _ _ B3.out]; rfl
  go_wp2_with fail
  refine (begun_any w3 s l hk hs f).mono ?_
  rintro e w4 ⟨g2, d2, L2, M2, V2, rfl, h4, o4, t4, n1, n2, n3, n4, n5⟩
  have hduo : DuoL w w4 g1 d1 L1 M1 V1 (S1 k h) g2 d2 L2 M2 V2 (S1 k h) [] := by
    have l3 := LogAt.lt H3.out
    have z3 := T3.out.size
    have hge : ∀ x ∈ [g2, d2, L2, M2, V2], w3.heap.size ≤ x := by
      intro x hx
      simp only [List.mem_cons, List.not_mem_nil, or_false] at hx
      rcases hx with rfl | rfl | rfl | rfl | rfl <;> omega
    refine ⟨H3.out.far t4 (by simp), h4, fun x hx hm => ?_, fun x hx => ?_, T3.out.trans t4, fun q hq => by cases hq⟩
    · have := l3 x hx; have := hge x hm; omega
    · have e10 : [g1, d1, L1, M1, V1, g2, d2, L2, M2, V2] = [g1, d1, L1, M1, V1] ++ [g2, d2, L2, M2, V2] := rfl
      rw [e10] at hx
      rcases List.mem_append.1 hx with hx | hx
      · exact OWN1.out x hx
      · have := hge x hx; omega
  have HD := Lib.hid hduo
  clear h4 o4 t4 n1 n2 n3 n4 n5 hduo T3 B3 H3 OWN1 c0 c1 HPS
  clear hk hs
  go_wp2_with fail
  have TW := Lib.hid (twin0 f)
  generalize hm : os.length = m at *
  have HN := Lib.hid hm
  clear hm
  go_loopg [8, 11, 12, 13, 14, 15, 16] 60 (fun q av i _ _ _ _ _ wr => ∃ j g1 V1 A B now, OnAt 60 i q j ∧ av = .pointer (some ⟨g1, 0, none⟩) ∧ DuoL w wr g1 d1 L1 M1 V1 A g2 d2 L2 M2 V2 B [] ∧ LogS.Twin k h (1 + 2 * j) A B now)
  case atStart => exact ⟨0, g1, V1, _, _, _, ⟨Nat.zero_le _, rfl, rfl⟩, rfl, HD.out, TW.out⟩
  case round =>
    obtain ⟨j, ga, Va, A, B, now, ⟨hj, rfl, rfl⟩, rfl, hd, htw⟩ := hrel
    clear HD TW
    have HD := Lib.hid hd
    have TW := Lib.hid htw
    clear hd htw
    by_cases hjj : j < m ∧ j < 60
    · obtain ⟨hj1, hj2⟩ := hjj
      · have hlen' : os.length = m := HN.out
        have hx : os[j]? = some (os[j]'(by omega)) := List.getElem?_eq_getElem _
        obtain ⟨kb, ko, rfl, hop⟩ := HO.out j _ hx
        generalize os[j]'(by omega) = o at *
        have hop' := hop.later HD.out.tch
        have c0 := hop'.c0
        have c1 := hop'.c1
        have c2 := hop'.c2
        have c3 := hop'.c3
        have HOP := Lib.hid hop
        clear hop hop' hx hlen'
        go_upto_region 10 with fail
        have hput := HD.out.put o.cells
        change DuoL w (wr.alloc (.cells #[.int .i64 o.what, .int .i64 o.i, .slice o.pa o.pages.length o.pcap, .slice o.ta o.texts.length o.tcap] 41)) _ _ _ _ _ _ _ _ _ _ _ _ _ at hput
        generalize wr.alloc (.cells #[.int .i64 o.what, .int .i64 o.i, .slice o.pa o.pages.length o.pcap, .slice o.ta o.texts.length o.tcap] 41) = w5 at *
        generalize wr.heap.size = X at *
        have H5 := Lib.hid hput
        clear hput HD c0 c1 c2 c3
        obtain ⟨x0, x1, x2, x3⟩ := box8_cells (H5.out.box (X, o.cells) (by simp)).1
        go_wp2_with fail
        obtain ⟨rv, r1, r2⟩ := TW.out.read o.i
        refine (logRead_any H5.out.a TW.out.a.ok o.i).mono ?_
        rintro e w6 ⟨rfl, h6, t6⟩
        rw [r1] at h6
        have H6 := Lib.hid (H5.out.stepA h6 (t6.mono (by simp)))
        clear h6 t6 H5 x0 x1 x2 x3 r1 r2
        go_wp2_with fail
        refine (room_any H6.out.a TW.out.a.lay.log4 TW.out.a.lay.used).mono ?_
        rintro e w7 ⟨rfl, t7⟩
        rw [if_neg (show ¬ A.dead = true by rw [TW.out.a.live]; decide)]
        have H7 := Lib.hid (H6.out.same t7)
        clear t7 H6
        obtain ⟨x0, x1, x2, x3⟩ := box8_cells (H7.out.box (X, o.cells) (by simp)).1
        go_upto_if 66 with fail
        go_cut [8, 13, 14] from 43 to 92 (fun av _ _ wx => ∃ gb Vb A' now', av = .pointer (some ⟨gb, 0, none⟩) ∧ DuoL w wx gb d1 L1 M1 Vb A' g2 d2 L2 M2 V2 B [(X, o.cells)] ∧ LogS.Twin k h (1 + 2 * j + 1) A' B now')
        case first =>
          by_cases h3 : o.i.tmod 3 = 0
          · obtain ⟨T, e1, tw⟩ := TW.out.opens (by omega)
            have TW2 := Lib.hid tw
            clear tw
            go_wp2_with fail
            refine (open_ok H7.out.a.hD e1).mono ?_
            rintro e w8 ⟨g, V, rfl, h8, o8, t8, g8, v8⟩
            have H8 := Lib.hid (H7.out.openA h8 t8 g8 v8)
            clear h8 o8 t8 g8 v8 H7 e1 x0 x1 x2 x3
            go_wp2_with fail
            go_meet
            exact ⟨g, V, T, _, rfl, H8.out, TW2.out⟩
          · go_wp2_with fail
            go_meet
            exact ⟨ga, Va, A, _, rfl, H7.out, TW.out.mono (by omega)⟩
        case rest =>
        obtain ⟨gb, Vb, A2, now2, rfl, hd, htw⟩ := hcut
        clear H7 TW x0 x1 x2 x3
        have H8 := Lib.hid hd
        have TW := Lib.hid htw
        clear hd htw
        obtain ⟨x0, x1, x2, x3⟩ := box8_cells (H8.out.box (X, o.cells) (by simp)).1
        by_cases hw1 : o.what = 1
        · obtain ⟨e1, A3, B3, now3, q1, q2, tw⟩ := TW.out.commit (by omega) o.imgs
          have Q1 := Lib.hid q1
          have Q2 := Lib.hid q2
          have TW3 := Lib.hid tw
          clear q1 q2 tw
          go_wp2_with fail
          refine (images8 HOP.out H8.out.tch 1).mono ?_
          rintro e w9 ⟨t9, ia, icap, rfl, i9, b9⟩
          have hap : ∀ b, ia = some ⟨b, 0, none⟩ → b ∉ [gb, d1, L1, M1, Vb] := fun b hb hm => by
            have k1 := b9 b hb
            have k2 := H8.out.lt b (by rw [show [gb, d1, L1, M1, Vb, g2, d2, L2, M2, V2] = [gb, d1, L1, M1, Vb] ++ [g2, d2, L2, M2, V2] from rfl]; exact List.mem_append_left _ hm)
            omega
          have H9 := Lib.hid (H8.out.same t9)
          have I9 := Lib.hid i9
          have AP := Lib.hid hap
          clear t9 i9 b9 hap H8 x0 x1 x2 x3
          go_wp2_with fail
          refine (commit_any H9.out.a TW.out.a.ok (ws := o.imgs) I9.out (by have := imgs_len o; omega) AP.out).mono ?_
          rintro e wa ⟨rfl, ha, ta⟩
          rw [Q1.out] at ha ⊢
          have HA := Lib.hid (H9.out.stepA ha ta)
          clear ha ta H9 I9 AP
          obtain ⟨x0, x1, x2, x3⟩ := box8_cells (HA.out.box (X, o.cells) (by simp)).1
          rw [hw1] at x0
          go_wp2_with fail
          refine (images8 HOP.out HA.out.tch 1).mono ?_
          rintro e wb ⟨tb, ja, jcap, rfl, ib, bb⟩
          have hap : ∀ b, ja = some ⟨b, 0, none⟩ → b ∉ [g2, d2, L2, M2, V2] := fun b hb hm => by
            have k1 := bb b hb
            have k2 := HA.out.lt b (by rw [show [gb, d1, L1, M1, Vb, g2, d2, L2, M2, V2] = [gb, d1, L1, M1, Vb] ++ [g2, d2, L2, M2, V2] from rfl]; exact List.mem_append_right _ hm)
            omega
          have HB := Lib.hid (HA.out.same tb)
          have IB := Lib.hid ib
          have AP := Lib.hid hap
          clear tb ib bb hap HA x0 x1 x2 x3
          go_wp2_with fail
          refine (commit_any HB.out.b TW.out.b.ok (ws := o.imgs) IB.out (by have := imgs_len o; omega) AP.out).mono ?_
          rintro e wd ⟨rfl, hd, td⟩
          rw [Q2.out] at hd ⊢
          have HC := Lib.hid (HB.out.stepB hd td)
          clear hd td HB IB AP
          have bne : (e1 != e1) = false := bne_self_eq_false _
          go_wp2_with fail
          go_roundg (60 - (j + 1))
          case measure => omega
          case rel => exact ⟨j + 1, gb, Vb, A3, B3, now3, ⟨by omega, by go_num, rfl⟩, rfl, HC.out.drop, TW3.out.mono (by omega)⟩
        · go_wp2_with fail
          go_roundg (60 - (j + 1))
          case measure => omega
          case rel => exact ⟨j + 1, gb, Vb, A2, B, now2, ⟨by omega, by go_num, rfl⟩, rfl, H8.out.drop, TW.out.mono (by omega)⟩
    · go_wp2_with fail
      all_goals
        go_loopg [17, 18, 19, 20, 21] (2 + k + h) (fun q i _ _ _ _ wx => ∃ j, OnAt (2 + k + h) i q j ∧ DuoL w wx ga d1 L1 M1 Va A g2 d2 L2 M2 V2 B [])
        case atStart => exact ⟨0, ⟨Nat.zero_le _, rfl, rfl⟩, HD.out⟩
        case round =>
          obtain ⟨p, ⟨hp, rfl, rfl⟩, hd⟩ := hrel
          clear HD
          have HE := Lib.hid hd
          clear hd
          by_cases hpp : p < 2 + k + h
          · obtain ⟨⟨x, er⟩, r1, r2⟩ := TW.out.read (p : Int)
            have R1 := Lib.hid r1
            have R2 := Lib.hid r2
            clear r1 r2
            go_wp2_with fail
            refine (logRead_any HE.out.a TW.out.a.ok (p : Int)).mono ?_
            rintro e w5 ⟨rfl, h5, t5⟩
            rw [R1.out] at h5 ⊢
            simp only
            have hput := (HE.out.stepA h5 (t5.mono (by simp))).put (.cells (secA x) 59)
            have H5 := Lib.hid hput
            clear h5 t5 hput HE
            go_upto_region 26 with (first | ((with_reducible refine wc_alloc_arr pageT ?_); go_frame; (try simp only [World.size_alloc])) | ((with_reducible apply wc_store_new pageT); exact rfl; exact rfl; go_frame))
            generalize w5.alloc (.cells (secA x) 59) = w6 at *
            generalize w5.heap.size = X at *
            go_wp2_with fail
            refine (logRead_any H5.out.b TW.out.b.ok (p : Int)).mono ?_
            rintro e w7 ⟨rfl, h7, t7⟩
            rw [R2.out] at h7 ⊢
            simp only
            have hput := (H5.out.stepB h7 (t7.mono (by simp))).put (.cells (secA x) 59)
            have H7 := Lib.hid hput
            clear h7 t7 hput H5
            go_upto_region 27 with (first | ((with_reducible refine wc_alloc_arr pageT ?_); go_frame; (try simp only [World.size_alloc])) | ((with_reducible apply wc_store_new pageT); exact rfl; exact rfl; go_frame))
            generalize w7.alloc (.cells (secA x) 59) = w8 at *
            generalize w7.heap.size = Y at *
            have X8 := Lib.hid (H7.out.box (X, .cells (secA x) 59) (by simp)).1
            have Y8 := Lib.hid (H7.out.box (Y, .cells (secA x) 59) (by simp)).1
            have bne : (er != er) = false := bne_self_eq_false _
            have hxx : (!decide (x = x)) = false := by simp
            go_wp2_with (first | ((with_reducible apply wc_load_var pageT X8.out); exact rfl; go_frame) | ((with_reducible apply wc_load_var pageT Y8.out); exact rfl; go_frame) | ((with_reducible refine wc_neq_arr pageT (s := x) (t := x) ?_ ?_ ?_); exact rfl; exact rfl; rw [hxx]; go_frame))
            go_roundg (2 + k + h - (p + 1))
            case measure => omega
            case rel => exact ⟨p + 1, ⟨by omega, by go_num, rfl⟩, H7.out.drop⟩
          · go_wp2_with fail
            refine (pending_any HE.out.a.hD).mono ?_
            rintro e w5 ⟨t5, v, rfl, pa, pcap, rfl, i5⟩
            rw [TW.out.pending] at i5 ⊢
            have H5 := Lib.hid (HE.out.same t5)
            have I5 := Lib.hid i5
            clear t5 i5 HE
            go_wp2_with fail
            refine (eqInts_any (l := []) (m := []) I5.out (fun _ _ hq => by cases hq) (by decide) (by decide)).mono ?_
            rintro e w6 ⟨rfl, t6⟩
            have H6 := Lib.hid (H5.out.same t6)
            clear t6 H5 I5
            rw [decide_eq_true rfl]
            go_wp2_with (go_at_call 20; refine (works_any _).mono ?_; rintro e we ⟨rfl, te⟩; have TE := Lib.hid (H6.out.tch.trans te); clear te)
            go_ret
            exact ⟨rfl, TE.out⟩
end Go.Proofs.Ythbaipljlbddcaa
/-
  To read, to ask and to open again change no later answer: WalBlind answers true at every input. No condition.
-/
namespace Go.Proofs.Ythbaipljlbddcaa
open Go.ChangeShapes Go.WideShapes Go.ChangeAt Go.RowKit Go.Cib
open Go.ChangeMaps (open_string shut_string)

set_option maxRecDepth 100000 in
set_option maxHeartbeats 1000000 in
theorem walBlind_lifted (os : Os) (started : os.Started) (H : Type) (enc : TypeId × Value → H) :
    ReturnsInHanded {} Try.checked os 7 .any (Rows.walBlindSpec.pre6 enc Try.prog Try.f7 Rows.walBlindRow.domain false) (Rows.walBlindSpec.post enc Try.prog Try.f7 false true false false) := by
  refine returnsInHanded_of_change (C := Try.checked) own started (by kernel_rfl) Try.func7
    (ChangeSpec.witness6 (enc := enc) (C := Try.checked) false ⟨#[], #[.agg #[.int .i64 0, .int .i64 0], .slice none 0 0], []⟩ 8 (by kernel_rfl) (by kernel_rfl) (by kernel_rfl) (by kernel_rfl)) ?_
  intro W base args ds gs before hval0 hW _ _
  have hval : ∀ (j : Nat) t v, Try.f7.params[j]? = some t → args[j]? = some v → Value.okWide Try.prog W .any base t v := hval0
  have hW' := hW
  obtain ⟨p, q, hA0, hV, rfl, _, _⟩ := hW
  have hA : DataW.TrodAll enc Try.prog W 0 (fun _ => true) true Try.f7.params.toList args.toList ds p := hA0
  rw [Try.params7] at hA hval
  obtain ⟨v0, vs0, d0, ds0, p0, q0, hargs, rfl, rfl, h0, r0⟩ := trodAll_cons hA
  obtain ⟨v1, vs1, d1, ds1, p1, q1, rfl, rfl, rfl, h1, r1⟩ := trodAll_cons r0
  obtain ⟨rfl, rfl, rfl⟩ := trodAll_nil r1
  obtain rfl : args = #[v0, v1] := by cases args; simp_all
  obtain ⟨rfl, rfl⟩ := trodVars_none hV
  obtain ⟨cs0, rfl, _⟩ := okWide_struct Try.underlying23 (hval 0 23 v0 rfl rfl)
  have k0 := h0
  have lt0 : ∀ x ∈ p0, x.block < W.heap.size := by obtain ⟨m, hm⟩ := k0; exact DataW.trod_lt m _ _ _ hm
  obtain ⟨fuel0, hf0⟩ := h0
  obtain ⟨S0, L0, e0⟩ := place_of_trod hf0
  obtain rfl : cs0 = #[.int .i64 S0, .int .i64 L0] := by cases cs0; simp [Value.cells] at e0; simp [e0]
  obtain ⟨a1, l1, c1, rfl⟩ := okWide_slice Try.underlying24 (hval 1 24 v1 rfl rfl)
  have k1 := h1
  have lt1 : ∀ x ∈ p1, x.block < W.heap.size := by obtain ⟨m, hm⟩ := k1; exact DataW.trod_lt m _ _ _ hm
  obtain ⟨fuel1, hf1⟩ := h1
  obtain ⟨x1, os1, y1, e1, g1, s1⟩ := ops8_of_trod hf1
  cases e1
  clear hA0 hval0
  refine (walBlind_any W S0 L0 a1 c1 os1 g1 (by unfold maxLen at s1; omega)).mono fun e W' ⟨he, ht⟩ => ?_
  subst he
  have bel : Below W.heap.size W W' := ht.below (Nat.le_refl _) (by simp)
  exact ⟨_, rfl, _, _, _, [], _, [], hW', trodAll_mk1 (shut_bool Try.underlying4 _), (trodAll_cons_mk (Below.trod laidOut (by kernel_rfl) (of_decide_eq_true (by kernel_rfl)) k0 bel lt0) (trodAll_cons_mk (Below.trod laidOut (by kernel_rfl) (of_decide_eq_true (by kernel_rfl)) k1 bel lt1) trodAll_mk0)), rfl, bel.frame _, fun h => by cases h⟩

theorem walBlind_holds : Rows.WalBlindSaid :=
  OpenClaim.holds_of_wide 7 Try.f7 rfl rfl rfl rfl rfl rfl rfl ⟨rfl, rfl, rfl, rfl, rfl⟩ rfl rfl rfl rfl rfl (by kernel_rfl) Try.func7 (by kernel_rfl)
    (of_decide_eq_true (by kernel_rfl)) (by unfold Func.isWrapper; first | (rw [if_pos (by decide +kernel)]; kernel_rfl) | (rw [if_neg (by decide +kernel)]; exact ⟨rfl, rfl⟩))
    (fun os started H enc _ => walBlind_lifted os started H enc)
#print axioms walBlind_holds
end Go.Proofs.Ythbaipljlbddcaa
