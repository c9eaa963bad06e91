/-
  Plain laws about what scripts do to a disk: what is flushed stays in sectors that are not written; behind a failure of the power each sector is what was flushed or what was chosen of what was pending.
-/
import Derived.Test.YtpfgjopiddopbaaBlind
namespace Go.Proofs.Ytpfgjopiddopbaa
open Go.RowKit Go.Cib

theorem goes_lasts (D : DiskS) : D.goes.lasts = D.lasts := by unfold DiskS.goes; split <;> rfl
theorem goes_waits (D : DiskS) : D.goes.waits = D.waits := by unfold DiskS.goes; split <;> rfl
theorem write_lasts (D : DiskS) (i : Int) (s : Sec) : (D.write i s).2.lasts = D.lasts := by
  unfold DiskS.write; split
  · exact goes_lasts _
  · rfl
theorem write_waits (D : DiskS) (i : Int) (s : Sec) (j : Int) (h : ¬ (i = j ∧ 0 ≤ i ∧ i < D.lasts.length)) : (D.write i s).2.waits j = D.waits j := by
  unfold DiskS.write; split
  · rename_i hm
    show (D.put i s).goes.waits j = _
    rw [goes_waits]
    have : ¬ j = i := by
      rintro rfl
      refine h ⟨rfl, ?_⟩
      unfold DiskS.may at hm
      repeat' split at hm
      all_goals first | (exfalso; omega) | omega
    simp [DiskS.put, this]
  · rfl

/-- Sectors that no write has touched hold what l says, and nothing waits for them. -/
structure Safe (l : List Sec) (ov : Nat → Bool) (D : DiskS) : Prop where
  len : D.lasts.length = l.length
  wait : ∀ i : Nat, i < l.length → ov i = false → D.waits i = none
  keep : ∀ i : Nat, i < l.length → ov i = false → D.lasts[i]? = l[i]?
def overBy (n : Nat) (o : OpV) (i : Nat) : Bool := o.what == 1 && o.i == i && decide (i < n)
theorem lay_same {ls : List Sec} {g : Int → Option Sec} {i : Nat} (h : g i = none) : (DiskS.lay ls g)[i]? = ls[i]? := by
  rw [DiskS.getElem?_lay, h]
  cases ls[i]? <;> rfl
theorem Safe.flush {l : List Sec} {ov : Nat → Bool} {D : DiskS} (h : Safe l ov D) : Safe l ov D.flush.2 := by
  unfold DiskS.flush
  repeat' split
  · exact h
  · exact ⟨by rw [goes_lasts]; exact h.len, fun i hi ho => by rw [goes_waits]; exact h.wait i hi ho, fun i hi ho => by rw [goes_lasts]; exact h.keep i hi ho⟩
  · refine ⟨?_, fun i hi ho => rfl, fun i hi ho => ?_⟩
    · simp only [DiskS.flushed, DiskS.length_lay, goes_lasts]; exact h.len
    · simp only [DiskS.flushed, goes_lasts, goes_waits]
      exact (lay_same (h.wait i hi ho)).trans (h.keep i hi ho)
theorem Safe.on {l : List Sec} {ov : Nat → Bool} {D : DiskS} (h : Safe l ov D) (k : List Int) : Safe l ov (D.on k).2 := by
  unfold DiskS.on
  split
  · refine ⟨?_, fun i hi ho => rfl, fun i hi ho => ?_⟩
    · simp only [DiskS.length_lay]; exact h.len
    · simp only
      rw [lay_same (by unfold DiskS.kept; split; exact h.wait i hi ho; rfl)]
      exact h.keep i hi ho
  · exact h
theorem Safe.arm {l : List Sec} {ov : Nat → Bool} {D : DiskS} (h : Safe l ov D) (k : Int) : Safe l ov (D.arm k).2 := by
  unfold DiskS.arm
  split
  · exact h
  · exact ⟨h.len, h.wait, h.keep⟩
theorem Safe.does {l : List Sec} {ov : Nat → Bool} {D : DiskS} (h : Safe l ov D) (o : OpV) : Safe l (fun i => ov i || overBy l.length o i) (act D o) := by
  have weak : ∀ E, Safe l ov E → Safe l (fun i => ov i || overBy l.length o i) E := fun E g =>
    ⟨g.len, fun i hi ho => g.wait i hi (Bool.or_eq_false_iff.1 ho).1, fun i hi ho => g.keep i hi (Bool.or_eq_false_iff.1 ho).1⟩
  unfold act
  by_cases h1 : o.what = 1
  · rw [if_pos h1]
    refine ⟨by rw [write_lasts]; exact h.len, fun i hi ho => ?_, fun i hi ho => by rw [write_lasts]; exact h.keep i hi (Bool.or_eq_false_iff.1 ho).1⟩
    have ho2 := (Bool.or_eq_false_iff.1 ho).2
    rw [write_waits]
    · exact h.wait i hi (Bool.or_eq_false_iff.1 ho).1
    · rintro ⟨e, _, _⟩
      simp [overBy, h1, e, hi] at ho2
  · rw [if_neg h1]
    refine weak _ ?_
    repeat' split
    · exact h.flush
    · exact h.arm _
    · exact ⟨h.len, h.wait, h.keep⟩
    · exact h.on _
    · exact h

theorem act_len (D : DiskS) (o : OpV) : (act D o).lasts.length = D.lasts.length := by
  unfold act
  repeat' split
  · rw [write_lasts]
  · unfold DiskS.flush
    repeat' split
    · rfl
    · rw [goes_lasts]; rfl
    · simp only [DiskS.flushed, DiskS.length_lay, goes_lasts]; rfl
  · unfold DiskS.arm; split <;> rfl
  · rfl
  · unfold DiskS.on; split
    · simp
    · rfl
  · rfl

/-- What the statement does ahead: the power is on, nothing is armed, all is flushed. -/
def alive (D : DiskS) : DiskS := if D.dead = true then (D.on []).2 else D
theorem alive_dead (D : DiskS) : (alive D).dead = false := by
  unfold alive
  split
  · rename_i h; simp [DiskS.on, h]
  · rename_i h; simpa using h
theorem alive_ok {D : DiskS} (h : D.Ok) : (alive D).Ok := by
  unfold alive; split
  · exact h.on _
  · exact h
theorem alive_len (D : DiskS) : (alive D).lasts.length = D.lasts.length := by
  unfold alive
  split
  · rename_i h
    simp [DiskS.on, h]
  · rfl
theorem flush_alive {D : DiskS} (h : D.dead = false) (ha : D.armed = 0) : D.flush.1 = 0 ∧ (∀ i, D.flush.2.waits i = none) ∧ D.flush.2.lasts.length = D.lasts.length ∧ D.flush.2.dead = false := by
  have hw : D.went = false := by simp [DiskS.went, ha]
  have e : D.flush = (0, D.counted.goes.flushed) := by unfold DiskS.flush; rw [if_neg (by simp [h]), if_neg (by simp [hw])]
  rw [e]
  refine ⟨rfl, fun i => rfl, ?_, ?_⟩
  · simp [DiskS.flushed, goes_lasts, DiskS.counted]
  · simp [DiskS.flushed, DiskS.goes, DiskS.counted, ha, h]
theorem arm_zero (D : DiskS) : (D.arm 0).1 = 0 ∧ (D.arm 0).2.dead = D.dead ∧ (D.arm 0).2.armed = 0 ∧ (D.arm 0).2.lasts = D.lasts := by
  unfold DiskS.arm; simp
theorem on_dead {D : DiskS} (h : D.dead = true) (k : List Int) : (D.on k).1 = 0 := by unfold DiskS.on; rw [if_pos h]
theorem on_off (D : DiskS) (k : List Int) : D.off.on k = (0, { D.off with dead := false, lasts := DiskS.lay D.lasts (D.kept k), waits := fun _ => none }) := by
  simp only [DiskS.on, DiskS.off, if_true]
  rfl
theorem pending_none {D : DiskS} (h : ∀ i, D.waits i = none) : D.pending = [] := by
  unfold DiskS.pending
  rw [List.filter_eq_nil_iff]
  intro a _
  simp [h]
theorem read_alive {D : DiskS} (h : D.dead = false) (i : Nat) (hi : i < D.lasts.length) : D.read i = (D.at_ i, 0) := by
  have : D.may i = 0 := by unfold DiskS.may; rw [if_neg (by simp [h]), if_neg (by omega), if_neg (by omega)]
  unfold DiskS.read; rw [if_pos this]
theorem at_flushed {D : DiskS} {i : Nat} {s : Sec} (h : D.waits i = none) (hl : D.lasts[i]? = some s) : D.at_ i = s := by
  unfold DiskS.at_; rw [h]; simp [hl]
/-- Behind the failure, what was safe is read. -/
theorem Safe.behind {l : List Sec} {ov : Nat → Bool} {D : DiskS} (h : Safe l ov D) (k : List Int) (i : Nat) (hi : i < l.length) :
    (D.off.on k).2.read i = ((D.off.on k).2.at_ i, 0) ∧ (ov i = false → (D.off.on k).2.at_ i = l[i]'hi) := by
  have hs := (show Safe l ov D.off from ⟨h.len, h.wait, h.keep⟩).on k
  have hd : (D.off.on k).2.dead = false := by rw [on_off]
  refine ⟨read_alive hd i (by rw [hs.len]; exact hi), fun ho => ?_⟩
  exact at_flushed (hs.wait i hi ho) (by rw [hs.keep i hi ho]; simp [hi])
theorem on_pending (D : DiskS) (k : List Int) : (D.off.on k).2.pending = [] := pending_none (fun i => by rw [on_off])

/-- What was chosen of what was pending lies over what was flushed. -/
def wantOf (D : DiskS) (k : List Int) : List Sec := DiskS.lay D.lasts (D.kept k)
theorem want_nil (D : DiskS) : wantOf D [] = D.lasts := by
  unfold wantOf
  rw [show D.kept [] = fun _ => none by funext i; simp [DiskS.kept]]
  exact DiskS.lay_none _
theorem want_len (D : DiskS) (k : List Int) : (wantOf D k).length = D.lasts.length := by simp [wantOf]
theorem want_yes {D : DiskS} (hd : D.dead = false) (k : List Int) (i : Nat) (hi : i < D.lasts.length) (hw : (D.waits i).isSome = true) :
    D.read i = (D.at_ i, 0) ∧ wantOf D (k ++ [(i : Int)]) = (wantOf D k).set i (D.at_ i) := by
  obtain ⟨s, hs⟩ := Option.isSome_iff_exists.1 hw
  refine ⟨read_alive hd i hi, ?_⟩
  have e : D.at_ i = s := by unfold DiskS.at_; rw [hs]; rfl
  rw [e]
  unfold wantOf
  rw [kept_some D k i s hs, DiskS.lay_upd]
theorem want_no {D : DiskS} (k : List Int) (i : Int) (hw : D.waits i = none) : wantOf D (k ++ [i]) = wantOf D k := by
  unfold wantOf
  rw [kept_none D k i hw]
theorem want_behind (D : DiskS) (k : List Int) (i : Nat) (hi : i < D.lasts.length) :
    (D.off.on k).2.read i = ((wantOf D k)[i]'(by rw [want_len]; exact hi), 0) := by
  have hd : (D.off.on k).2.dead = false := by rw [on_off]
  have hl : (D.off.on k).2.lasts = wantOf D k := by rw [on_off]; rfl
  rw [read_alive hd i (by rw [hl, want_len]; exact hi)]
  congr 1
  exact at_flushed (by rw [on_off]) (by rw [hl]; simp [want_len, hi])

theorem pending_step (D : DiskS) (i : Nat) (x y : Int) (hx : D.pending[i]? = some x) (hy : D.pending[i + 1]? = some y) : x < y := by
  have h := pending_sorted D
  obtain ⟨hi, ei⟩ := List.getElem?_eq_some_iff.1 hx
  obtain ⟨hj, ej⟩ := List.getElem?_eq_some_iff.1 hy
  rw [← ei, ← ej]
  exact (List.pairwise_iff_getElem.1 h) i (i + 1) hi hj (by omega)
end Go.Proofs.Ytpfgjopiddopbaa
