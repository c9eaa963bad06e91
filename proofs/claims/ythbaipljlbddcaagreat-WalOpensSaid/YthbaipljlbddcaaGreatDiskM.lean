/-
  The disk of chapter 7 as a plain machine; no Go in it.
-/
import Derived.Test.YthbaipljlbddcaaGreatSec
namespace Go.Cib
open Go Go.RowKit

structure DiskS where
  lasts : List Sec
  waits : Int → Option Sec
  dead : Bool
  armed : Int
  writes : Int
  flushes : Int

namespace DiskS
def made (n : Nat) : DiskS := ⟨List.replicate n (Arr.zero : Sec), fun _ => none, false, 0, 0, 0⟩
/-- Why sector i can't be asked for. -/
def may (D : DiskS) (i : Int) : Int := if D.dead = true then 6 else if i < 0 then 2 else if (D.lasts.length : Int) ≤ i then 2 else 0
def at_ (D : DiskS) (i : Int) : Sec := (D.waits i).getD (D.lasts.getD i.toNat Arr.zero)
def read (D : DiskS) (i : Int) : Sec × Int := if D.may i = 0 then (D.at_ i, 0) else (Arr.zero, D.may i)
/-- The count behind an operation, and whether the power goes. -/
def went (D : DiskS) : Bool := D.armed == 1
def goes (D : DiskS) : DiskS := if D.armed = 0 then D else { D with armed := D.armed - 1, dead := D.armed == 1 }
def put (D : DiskS) (i : Int) (s : Sec) : DiskS := { D with writes := wrap64 (D.writes + 1), waits := fun j => if j = i then some s else D.waits j }
def write (D : DiskS) (i : Int) (s : Sec) : Int × DiskS :=
  if D.may i = 0 then (if D.went = true then 6 else 0, (D.put i s).goes) else (D.may i, D)
/-- Sectors with others laid over them. -/
def lay (ls : List Sec) (g : Int → Option Sec) : List Sec := (List.range ls.length).map fun (i : Nat) => (g (i : Int)).getD (ls.getD i Arr.zero)
def counted (D : DiskS) : DiskS := { D with flushes := wrap64 (D.flushes + 1) }
def flushed (D : DiskS) : DiskS := { D with lasts := lay D.lasts D.waits, waits := fun _ => none }
def flush (D : DiskS) : Int × DiskS :=
  if D.dead = true then (6, D) else if D.went = true then (6, D.counted.goes) else (0, D.counted.goes.flushed)
def pending (D : DiskS) : List Int := ((List.range D.lasts.length).map (fun (i : Nat) => (i : Int))).filter fun i => (D.waits i).isSome
def arm (D : DiskS) (n : Int) : Int × DiskS := if n < 0 then (2, D) else (0, { D with armed := n })
def off (D : DiskS) : DiskS := { D with dead := true, armed := 0 }
def kept (D : DiskS) (keep : List Int) : Int → Option Sec := fun i => if i ∈ keep then D.waits i else none
def on (D : DiskS) (keep : List Int) : Int × DiskS :=
  if D.dead = true then (0, { D with dead := false, lasts := lay D.lasts (D.kept keep), waits := fun _ => none }) else (70, D)

/-- What holds of every disk. -/
structure Ok (D : DiskS) : Prop where
  some : 1 ≤ D.lasts.length
  size : D.lasts.length ≤ 16384
  sup : ∀ i s, D.waits i = .some s → 0 ≤ i ∧ i < D.lasts.length
  arm0 : 0 ≤ D.armed
  arm1 : D.armed ≤ 9223372036854775807

@[simp] theorem length_lay (ls : List Sec) (g : Int → Option Sec) : (lay ls g).length = ls.length := by simp [lay]
theorem getElem?_lay (ls : List Sec) (g : Int → Option Sec) (i : Nat) : (lay ls g)[i]? = (ls[i]?).map fun s => (g i).getD s := by
  unfold lay
  rw [List.getElem?_map]
  by_cases h : i < ls.length
  · simp [h]
  · rw [List.getElem?_eq_none (by simpa using h), List.getElem?_eq_none (by simpa using h)]
    rfl
theorem lay_none (ls : List Sec) : lay ls (fun _ => none) = ls := by
  apply List.ext_getElem?
  intro i
  rw [getElem?_lay]
  cases ls[i]? <;> simp
/-- One sector more is laid. -/
theorem lay_upd (ls : List Sec) (g : Int → Option Sec) (i : Nat) (s : Sec) : lay ls (fun j => if j = (i : Int) then .some s else g j) = (lay ls g).set i s := by
  apply List.ext_getElem?
  intro j
  rw [getElem?_lay, List.getElem?_set, getElem?_lay]
  by_cases hj : i = j
  · subst hj
    simp only [if_true, length_lay]
    by_cases hl : i < ls.length
    · simp [hl]
    · simp [hl]
  · have : ¬ ((j : Int) = (i : Int)) := by omega
    simp only [hj, this, if_false]

theorem Ok.goes {D : DiskS} (h : Ok D) : Ok D.goes := by
  unfold DiskS.goes
  split
  · exact h
  · have := h.arm0; have := h.arm1
    exact ⟨h.some, h.size, h.sup, by simp only; omega, by simp only; omega⟩
theorem Ok.put {D : DiskS} (h : Ok D) {i : Int} {s : Sec} (hi : D.may i = 0) : Ok (D.put i s) := by
  refine ⟨h.some, h.size, fun j t hj => ?_, h.arm0, h.arm1⟩
  simp only [DiskS.put] at hj ⊢
  by_cases e : j = i
  · subst e
    unfold DiskS.may at hi
    repeat' split at hi
    all_goals first | (exfalso; omega) | omega
  · rw [if_neg e] at hj; exact h.sup j t hj
theorem Ok.write {D : DiskS} (h : Ok D) (i : Int) (s : Sec) : Ok (D.write i s).2 := by
  unfold DiskS.write
  split
  · exact (h.put ‹_›).goes
  · exact h
theorem Ok.counted {D : DiskS} (h : Ok D) : Ok D.counted := ⟨h.some, h.size, h.sup, h.arm0, h.arm1⟩
theorem Ok.flushed {D : DiskS} (h : Ok D) : Ok D.flushed := ⟨by simpa [DiskS.flushed] using h.some, by simpa [DiskS.flushed] using h.size, by simp [DiskS.flushed], h.arm0, h.arm1⟩
theorem Ok.flush {D : DiskS} (h : Ok D) : Ok D.flush.2 := by
  unfold DiskS.flush
  repeat' split
  · exact h
  · exact h.counted.goes
  · exact h.counted.goes.flushed
theorem Ok.arm {D : DiskS} (h : Ok D) (n : Int) (hn : n ≤ 9223372036854775807) : Ok (D.arm n).2 := by
  unfold DiskS.arm
  split
  · exact h
  · exact ⟨h.some, h.size, h.sup, by simp only; omega, hn⟩
theorem Ok.off {D : DiskS} (h : Ok D) : Ok D.off := ⟨h.some, h.size, h.sup, by simp [DiskS.off], by simp [DiskS.off]⟩
theorem Ok.on {D : DiskS} (h : Ok D) (keep : List Int) : Ok (D.on keep).2 := by
  unfold DiskS.on
  split
  · exact ⟨by simpa using h.some, by simpa using h.size, by simp, h.arm0, h.arm1⟩
  · exact h
theorem Ok.made {n : Nat} (h1 : 1 ≤ n) (h2 : n ≤ 16384) : Ok (DiskS.made n) := ⟨by simpa [DiskS.made] using h1, by simpa [DiskS.made] using h2, by simp [DiskS.made], by simp [DiskS.made], by simp [DiskS.made]⟩
end DiskS
end Go.Cib
