/-
  The log of chapter 8 as a plain machine, as package wal does it; no Go in it.
-/
import Derived.Test.YthbaipljlbddcaaGreatDiskM
import Derived.Test.YthbaipljlbddcaaGreatFrame
namespace Go.Cib
open Go Go.RowKit

/-- One thing asked of the disk. -/
inductive DAct where
  | write (i : Int) (s : Sec)
  | flush

namespace DiskS
def act (D : DiskS) : DAct → Int × DiskS
  | .write i s => D.write i s
  | .flush => D.flush
/-- One behind the other, till one fails. -/
def acts (D : DiskS) : List DAct → Int × DiskS
  | [] => (0, D)
  | x :: xs => if (D.act x).1 = 0 then acts (D.act x).2 xs else D.act x
theorem acts_cons (D : DiskS) (x : DAct) (xs : List DAct) : D.acts (x :: xs) = if (D.act x).1 = 0 then (D.act x).2.acts xs else D.act x := rfl
theorem Ok.act {D : DiskS} (h : Ok D) (x : DAct) : Ok (D.act x).2 := by
  cases x with
  | write i s => exact h.write i s
  | flush => exact h.flush
theorem Ok.acts {D : DiskS} (h : Ok D) (xs : List DAct) : Ok (D.acts xs).2 := by
  induction xs generalizing D with
  | nil => exact h
  | cons x xs ih =>
    unfold DiskS.acts
    split
    · exact ih (h.act x)
    · exact h.act x
theorem acts_append (D : DiskS) (xs ys : List DAct) : D.acts (xs ++ ys) = if (D.acts xs).1 = 0 then (D.acts xs).2.acts ys else D.acts xs := by
  induction xs generalizing D with
  | nil => simp [acts]
  | cons x xs ih =>
    rw [List.cons_append, acts_cons, acts_cons]
    by_cases h : (D.act x).1 = 0
    · rw [if_pos h, if_pos h, ih]
    · rw [if_neg h, if_neg h, if_neg h]
theorem acts_one (D : DiskS) (x : DAct) : D.acts [x] = D.act x := by
  unfold acts
  split
  · rename_i h; exact Prod.ext h.symm rfl
  · rfl
end DiskS

structure LogS where
  disk : DiskS
  log : Nat
  pages : Nat
  gen : Nat
  used : Nat
  records : Nat
  over : Int → Option Page
  dead : Bool

namespace LogS
def homeF (L : LogS) (p : Nat) (x : Page) : FrameV := ⟨5, L.gen, 0, p, x⟩
def homeA (L : LogS) (p : Nat) (x : Page) : DAct := .write ((2 + L.log + p : Nat) : Int) (L.homeF p x).sector
def headF (L : LogS) : FrameV := ⟨1, L.gen, 0, 0, numsPage [L.log, L.pages]⟩
def headAs (L : LogS) : List DAct := [.write ((L.gen % 2 : Nat) : Int) L.headF.sector, .flush]
/-- The frames of a record: the list, the images, the end; what a record's writing asks of the disk. -/
def rec_ (S : LogS) (f : FrameV) : FrameV := { f with gen := S.gen, num := S.records }
def frame2 (names : List Nat) : FrameV := ⟨2, 0, 0, names.length, numsPage names⟩
def frame3 (k : Nat) (x : Page) : FrameV := ⟨3, 0, 0, k, x⟩
def frame4 (n : Nat) : FrameV := ⟨4, 0, 0, n, Arr.zero⟩
def putsA (S : LogS) : Nat → List FrameV → List DAct
  | _, [] => []
  | pl, f :: fs => .write (pl : Int) (S.rec_ f).sector :: putsA S (pl + 1) fs
def imgFrames (w : List (Nat × Page)) : List FrameV := w.zipIdx.map fun q => frame3 q.2 q.1.2
def recFrames (w : List (Nat × Page)) : List FrameV := frame2 (w.map (·.1)) :: imgFrames w
def writeAs (L : LogS) (w : List (Nat × Page)) : List DAct := L.putsA (2 + L.used) (recFrames w) ++ (.flush :: (L.putsA (3 + L.used + w.length) [frame4 w.length] ++ [.flush]))
/-- The next generation (a number of 64 bits). -/
def next (L : LogS) : LogS := { L with gen := (L.gen + 1) % 18446744073709551616 }
def told (L : LogS) (r : Int × DiskS) : LogS := { L with disk := r.2, dead := L.dead || r.1 == 6 }
def took (L : LogS) (w : List (Nat × Page)) : LogS :=
  { L with over := w.foldl (fun o q p => if p = (q.1 : Int) then some q.2 else o p) L.over, used := L.used + w.length + 2, records := L.records + 1 }
/-- The pages that lie in the log, from the least. -/
def kept (L : LogS) : List (Nat × Page) := (List.range L.pages).filterMap fun (p : Nat) => (L.over (p : Int)).map fun x => (p, x)
def homeAs (L : LogS) : List DAct := (L.kept.map fun q => L.homeA q.1 q.2) ++ [.flush]
def cleared (L : LogS) : LogS := { L with used := 0, records := 0, over := fun _ => none }
/-- The head of the next generation, and what was told of it. -/
def raise (L : LogS) : Int × LogS := ((L.disk.acts L.next.headAs).1, { L.next with disk := (L.disk.acts L.next.headAs).2 })
def checkpoint (L : LogS) : Int × LogS :=
  if L.dead = true then (6, L) else if L.used = 0 then (0, L) else
    if (L.disk.acts L.homeAs).1 ≠ 0 then ((L.disk.acts L.homeAs).1, L.told (L.disk.acts L.homeAs))
    else if ({ L with disk := (L.disk.acts L.homeAs).2 } : LogS).raise.1 ≠ 0 then (({ L with disk := (L.disk.acts L.homeAs).2 } : LogS).raise.1, ({ L with disk := (L.disk.acts L.homeAs).2 } : LogS).raise.2.told (({ L with disk := (L.disk.acts L.homeAs).2 } : LogS).raise.1, ({ L with disk := (L.disk.acts L.homeAs).2 } : LogS).raise.2.disk))
    else (0, ({ L with disk := (L.disk.acts L.homeAs).2 } : LogS).raise.2.cleared)
/-- Why images can't be written: 'may'. -/
def may (L : LogS) (w : List (Int × Page)) : Int :=
  if (∀ q ∈ w, 0 ≤ q.1 ∧ q.1 < L.pages) ∧ (w.map (·.1)).Nodup then (if 120 < w.length ∨ L.log < w.length + 2 then 82 else 0) else 2
def nats (w : List (Int × Page)) : List (Nat × Page) := w.map fun q => (q.1.toNat, q.2)
def write (L : LogS) (w : List (Nat × Page)) : Int × LogS :=
  if (L.disk.acts (L.writeAs w)).1 ≠ 0 then ((L.disk.acts (L.writeAs w)).1, L.told (L.disk.acts (L.writeAs w)))
  else (0, { L with disk := (L.disk.acts (L.writeAs w)).2 }.took w)
def commit (L : LogS) (w : List (Int × Page)) : Int × LogS :=
  if L.may w ≠ 0 then (L.may w, L) else if w = [] then (0, L) else if L.dead = true then (6, L) else
    if L.log < L.used + w.length + 2 then
      (if L.checkpoint.1 ≠ 0 then L.checkpoint else L.checkpoint.2.write (nats w))
    else L.write (nats w)
/-- 'Read'. -/
def pageOf (p : Nat) (s : Sec) : Page × Int :=
  if (parse s).sector = s ∧ (parse s).kind = 5 ∧ (parse s).num = 0 ∧ (parse s).idx = p then ((parse s).page, 0) else (Arr.zero, 81)
def read (L : LogS) (p : Int) : (Page × Int) × LogS :=
  if L.dead = true then ((Arr.zero, 6), L) else if p < 0 ∨ (L.pages : Int) ≤ p then ((Arr.zero, 2), L) else
    match L.over p with
    | some x => ((x, 0), L)
    | none =>
      if (L.disk.read (2 + L.log + p)).2 ≠ 0 then ((Arr.zero, (L.disk.read (2 + L.log + p)).2), { L with dead := L.dead || (L.disk.read (2 + L.log + p)).2 == 6 })
      else (pageOf p.toNat (L.disk.read (2 + L.log + p)).1, L)

/-- What holds of every log that was opened. -/
structure Ok (L : LogS) : Prop where
  log3 : 3 ≤ L.log
  log4 : L.log ≤ 4000
  pages1 : 1 ≤ L.pages
  pages2 : L.pages ≤ 16384
  size : 2 + L.log + L.pages = L.disk.lasts.length
  used : L.used ≤ L.log
  records : L.records ≤ L.used
  gen : L.gen < 18446744073709551616
  over : ∀ i x, L.over i = some x → 0 ≤ i ∧ i < L.pages

/-- 'Format'. -/
def fresh (D : DiskS) (log : Nat) : LogS := ⟨D, log, D.lasts.length - 2 - log, 1, 0, 0, fun _ => none, false⟩
def fmtA (log : Nat) : List DAct := ((List.range (log + 2)).map fun (i : Nat) => DAct.write (i : Int) Arr.zero) ++ [.flush]
def fmtB (L : LogS) : List DAct := ((List.range L.pages).map fun p => L.homeA p Arr.zero) ++ [.flush]
def format (D : DiskS) (log : Int) : Int × DiskS :=
  if log < 3 then (2, D) else if 4000 < log then (2, D) else if (D.lasts.length : Int) < log + 3 then (2, D) else
    if (D.acts (fmtA log.toNat)).1 ≠ 0 then D.acts (fmtA log.toNat) else
      if ((D.acts (fmtA log.toNat)).2.acts (fresh D log.toNat).fmtB).1 ≠ 0 then (D.acts (fmtA log.toNat)).2.acts (fresh D log.toNat).fmtB else
        ((D.acts (fmtA log.toNat)).2.acts (fresh D log.toNat).fmtB).2.acts (fresh D log.toNat).headAs

/-- 'Open': a head that counts. -/
def counts (L : LogS) (i : Nat) (f : FrameV) : Prop :=
  f.kind = 1 ∧ f.num = 0 ∧ f.idx = 0 ∧ L.gen < f.gen ∧ f.gen % 2 = i ∧ 3 ≤ numAt f.page 0 ∧ numAt f.page 0 ≤ 4000 ∧ 1 ≤ numAt f.page 1 ∧ numAt f.page 1 ≤ 16384 ∧
    2 + numAt f.page 0 + numAt f.page 1 = L.disk.lasts.length ∧ f.page = numsPage [numAt f.page 0, numAt f.page 1]
instance (L : LogS) (i : Nat) (f : FrameV) : Decidable (L.counts i f) := by unfold counts; infer_instance
def chooses (L : LogS) (i : Nat) (s : Sec) : LogS :=
  if (parse s).sector = s ∧ L.counts i (parse s) then { L with gen := (parse s).gen, log := numAt (parse s).page 0, pages := numAt (parse s).page 1 } else L
/-- The frame at a place of the log; is it one of that kind, of the record that is looked for? -/
def atF (L : LogS) (place : Nat) : FrameV := if place < L.log then parse (L.disk.at_ ((2 + place : Nat) : Int)) else ⟨0, 0, 0, 0, Arr.zero⟩
def atOk (L : LogS) (place : Nat) (kind : UInt8) : Bool :=
  decide (place < L.log) && decide ((parse (L.disk.at_ ((2 + place : Nat) : Int))).sector = L.disk.at_ ((2 + place : Nat) : Int)) && decide ((L.atF place).kind = kind) && decide ((L.atF place).gen = L.gen) && decide ((L.atF place).num = L.records)
/-- The pages that a list names. -/
def names (f : FrameV) : List Nat := (List.range f.idx).map (numAt f.page)
def listed (L : LogS) (f : FrameV) : Bool := decide (∀ n ∈ names f, n < L.pages) && decide (names f).Nodup && decide (f.page = numsPage (names f))
/-- 'record': what the next one bears. -/
def images (L : LogS) (f : FrameV) : List (Nat × Page) := (List.range f.idx).map fun k => (numAt f.page k, (L.atF (L.used + 1 + k)).page)
def record (L : LogS) : Option (List (Nat × Page)) :=
  if L.atOk L.used 2 = true ∧ 1 ≤ (L.atF L.used).idx ∧ (L.atF L.used).idx ≤ 120 ∧ L.used + (L.atF L.used).idx + 2 ≤ L.log ∧ L.listed (L.atF L.used) = true ∧
      (∀ k < (L.atF L.used).idx, L.atOk (L.used + 1 + k) 3 = true ∧ (L.atF (L.used + 1 + k)).idx = k) ∧
      L.atOk (L.used + 1 + (L.atF L.used).idx) 4 = true ∧ (L.atF (L.used + 1 + (L.atF L.used).idx)).idx = (L.atF L.used).idx ∧ (L.atF (L.used + 1 + (L.atF L.used).idx)).page = Arr.zero
  then some (L.images (L.atF L.used)) else none
/-- All records, one behind the other. -/
def runs : Nat → LogS → LogS
  | 0, L => L
  | n + 1, L => match L.record with
    | none => L
    | some w => runs n (L.took w)
def blank (D : DiskS) : LogS := ⟨D, 0, 0, 0, 0, 0, fun _ => none, false⟩
def heads (D : DiskS) : LogS := ((blank D).chooses 0 (D.read 0).1).chooses 1 (D.read 1).1
/-- What 'Open' answers, the log, the disk. -/
def opens (D : DiskS) : Int × Option LogS × DiskS :=
  if (D.read 0).2 ≠ 0 then ((D.read 0).2, none, D) else if (D.read 1).2 ≠ 0 then ((D.read 1).2, none, D) else
    if (heads D).gen = 0 then (80, none, D) else
      if ((heads D).runs (heads D).log).checkpoint.1 ≠ 0 then (((heads D).runs (heads D).log).checkpoint.1, none, ((heads D).runs (heads D).log).checkpoint.2.disk)
      else (0, some ((heads D).runs (heads D).log).checkpoint.2, ((heads D).runs (heads D).log).checkpoint.2.disk)
end LogS
end Go.Cib
