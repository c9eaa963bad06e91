/-
  The log of chapter 8 as a plain machine, as package wal does it; no Go in it.
-/
import Derived.Test.YtkjgbhpnlgcinaaGreatDoorMC
import Derived.Test.YtkjgbhpnlgcinaaGreatDoorMF1
import Derived.Test.YtkjgbhpnlgcinaaGreatDoorMD3
import Derived.Test.YtkjgbhpnlgcinaaGreatDoorMBase
import Derived.Test.YtkjgbhpnlgcinaaGreatDoorMF2
namespace Go.Cib
open Go Go.RowKit

/-- One thing asked of the disk. -/
inductive DAct where
  | write (i : Int) (s : Sec)
  | flush

namespace DiskS
def act (D : DiskS) : DAct → Int × DiskS
  | .write i s => D.write i s
  | .flush => D.flush
/-- One behind the other, till one fails. -/
def acts (D : DiskS) : List DAct → Int × DiskS
  | [] => (0, D)
  | x :: xs => if (D.act x).1 = 0 then acts (D.act x).2 xs else D.act x
theorem acts_cons (D : DiskS) (x : DAct) (xs : List DAct) : D.acts (x :: xs) = if (D.act x).1 = 0 then (D.act x).2.acts xs else D.act x := rfl
theorem Ok.act {D : DiskS} (h : Ok D) (x : DAct) : Ok (D.act x).2 := by
  cases x with
  | write i s => exact h.write i s
  | flush => exact h.flush
theorem Ok.acts {D : DiskS} (h : Ok D) (xs : List DAct) : Ok (D.acts xs).2 := by
  induction xs generalizing D with
  | nil => exact h
  | cons x xs ih =>
    unfold DiskS.acts
    split
    · exact ih (h.act x)
    · exact h.act x
theorem acts_append (D : DiskS) (xs ys : List DAct) : D.acts (xs ++ ys) = if (D.acts xs).1 = 0 then (D.acts xs).2.acts ys else D.acts xs := by
  induction xs generalizing D with
  | nil => simp [acts]
  | cons x xs ih =>
    rw [List.cons_append, acts_cons, acts_cons]
    by_cases h : (D.act x).1 = 0
    · rw [if_pos h, if_pos h, ih]
    · rw [if_neg h, if_neg h, if_neg h]
theorem acts_one (D : DiskS) (x : DAct) : D.acts [x] = D.act x := by
  unfold acts
  split
  · rename_i h; exact Prod.ext h.symm rfl
  · rfl
end DiskS

structure LogS where
  disk : DiskS
  log : Nat
  pages : Nat
  gen : Nat
  used : Nat
  records : Nat
  over : Int → Option Page
  dead : Bool

namespace LogS
def homeF (L : LogS) (p : Nat) (x : Page) : FrameV := ⟨5, L.gen, 0, p, x⟩
def homeA (L : LogS) (p : Nat) (x : Page) : DAct := .write ((2 + L.log + p : Nat) : Int) (L.homeF p x).sector
def headF (L : LogS) : FrameV := ⟨1, L.gen, 0, 0, numsPage [L.log, L.pages]⟩
def headAs (L : LogS) : List DAct := [.write ((L.gen % 2 : Nat) : Int) L.headF.sector, .flush]
/-- The frames of a record: the list, the images, the end; what a record's writing asks of the disk. -/
def rec_ (S : LogS) (f : FrameV) : FrameV := { f with gen := S.gen, num := S.records }
def frame2 (names : List Nat) : FrameV := ⟨2, 0, 0, names.length, numsPage names⟩
def frame3 (k : Nat) (x : Page) : FrameV := ⟨3, 0, 0, k, x⟩
def frame4 (n : Nat) : FrameV := ⟨4, 0, 0, n, Arr.zero⟩
def putsA (S : LogS) : Nat → List FrameV → List DAct
  | _, [] => []
  | pl, f :: fs => .write (pl : Int) (S.rec_ f).sector :: putsA S (pl + 1) fs
def imgFrames (w : List (Nat × Page)) : List FrameV := w.zipIdx.map fun q => frame3 q.2 q.1.2
def recFrames (w : List (Nat × Page)) : List FrameV := frame2 (w.map (·.1)) :: imgFrames w
def writeAs (L : LogS) (w : List (Nat × Page)) : List DAct := L.putsA (2 + L.used) (recFrames w) ++ (.flush :: (L.putsA (3 + L.used + w.length) [frame4 w.length] ++ [.flush]))
/-- The next generation (a number of 64 bits). -/
def next (L : LogS) : LogS := { L with gen := (L.gen + 1) % 18446744073709551616 }
def told (L : LogS) (r : Int × DiskS) : LogS := { L with disk := r.2, dead := L.dead || r.1 == 6 }
def took (L : LogS) (w : List (Nat × Page)) : LogS :=
  { L with over := w.foldl (fun o q p => if p = (q.1 : Int) then some q.2 else o p) L.over, used := L.used + w.length + 2, records := L.records + 1 }
/-- The pages that lie in the log, from the least. -/
def kept (L : LogS) : List (Nat × Page) := (List.range L.pages).filterMap fun (p : Nat) => (L.over (p : Int)).map fun x => (p, x)
def homeAs (L : LogS) : List DAct := (L.kept.map fun q => L.homeA q.1 q.2) ++ [.flush]
def cleared (L : LogS) : LogS := { L with used := 0, records := 0, over := fun _ => none }
/-- The head of the next generation, and what was told of it. -/
def raise (L : LogS) : Int × LogS := ((L.disk.acts L.next.headAs).1, { L.next with disk := (L.disk.acts L.next.headAs).2 })
def checkpoint (L : LogS) : Int × LogS :=
  if L.dead = true then (6, L) else if L.used = 0 then (0, L) else
    if (L.disk.acts L.homeAs).1 ≠ 0 then ((L.disk.acts L.homeAs).1, L.told (L.disk.acts L.homeAs))
    else if ({ L with disk := (L.disk.acts L.homeAs).2 } : LogS).raise.1 ≠ 0 then (({ L with disk := (L.disk.acts L.homeAs).2 } : LogS).raise.1, ({ L with disk := (L.disk.acts L.homeAs).2 } : LogS).raise.2.told (({ L with disk := (L.disk.acts L.homeAs).2 } : LogS).raise.1, ({ L with disk := (L.disk.acts L.homeAs).2 } : LogS).raise.2.disk))
    else (0, ({ L with disk := (L.disk.acts L.homeAs).2 } : LogS).raise.2.cleared)
/-- Why images can't be written: 'may'. -/
def may (L : LogS) (w : List (Int × Page)) : Int :=
  if (∀ q ∈ w, 0 ≤ q.1 ∧ q.1 < L.pages) ∧ (w.map (·.1)).Nodup then (if 120 < w.length ∨ L.log < w.length + 2 then 82 else 0) else 2
def nats (w : List (Int × Page)) : List (Nat × Page) := w.map fun q => (q.1.toNat, q.2)
def write (L : LogS) (w : List (Nat × Page)) : Int × LogS :=
  if (L.disk.acts (L.writeAs w)).1 ≠ 0 then ((L.disk.acts (L.writeAs w)).1, L.told (L.disk.acts (L.writeAs w)))
  else (0, { L with disk := (L.disk.acts (L.writeAs w)).2 }.took w)
def commit (L : LogS) (w : List (Int × Page)) : Int × LogS :=
  if L.may w ≠ 0 then (L.may w, L) else if w = [] then (0, L) else if L.dead = true then (6, L) else
    if L.log < L.used + w.length + 2 then
      (if L.checkpoint.1 ≠ 0 then L.checkpoint else L.checkpoint.2.write (nats w))
    else L.write (nats w)
/-- 'Read'. -/
def pageOf (p : Nat) (s : Sec) : Page × Int :=
  if (parse s).sector = s ∧ (parse s).kind = 5 ∧ (parse s).num = 0 ∧ (parse s).idx = p then ((parse s).page, 0) else (Arr.zero, 81)
def read (L : LogS) (p : Int) : (Page × Int) × LogS :=
  if L.dead = true then ((Arr.zero, 6), L) else if p < 0 ∨ (L.pages : Int) ≤ p then ((Arr.zero, 2), L) else
    match L.over p with
    | some x => ((x, 0), L)
    | none =>
      if (L.disk.read (2 + L.log + p)).2 ≠ 0 then ((Arr.zero, (L.disk.read (2 + L.log + p)).2), { L with dead := L.dead || (L.disk.read (2 + L.log + p)).2 == 6 })
      else (pageOf p.toNat (L.disk.read (2 + L.log + p)).1, L)

/-- What holds of every log that was opened. -/
structure Ok (L : LogS) : Prop where
  log3 : 3 ≤ L.log
  log4 : L.log ≤ 4000
  pages1 : 1 ≤ L.pages
  pages2 : L.pages ≤ 16384
  size : 2 + L.log + L.pages = L.disk.lasts.length
  used : L.used ≤ L.log
  records : L.records ≤ L.used
  gen : L.gen < 18446744073709551616
  over : ∀ i x, L.over i = some x → 0 ≤ i ∧ i < L.pages

/-- 'Format'. -/
def fresh (D : DiskS) (log : Nat) : LogS := ⟨D, log, D.lasts.length - 2 - log, 1, 0, 0, fun _ => none, false⟩
def fmtA (log : Nat) : List DAct := ((List.range (log + 2)).map fun (i : Nat) => DAct.write (i : Int) Arr.zero) ++ [.flush]
def fmtB (L : LogS) : List DAct := ((List.range L.pages).map fun p => L.homeA p Arr.zero) ++ [.flush]
def format (D : DiskS) (log : Int) : Int × DiskS :=
  if log < 3 then (2, D) else if 4000 < log then (2, D) else if (D.lasts.length : Int) < log + 3 then (2, D) else
    if (D.acts (fmtA log.toNat)).1 ≠ 0 then D.acts (fmtA log.toNat) else
      if ((D.acts (fmtA log.toNat)).2.acts (fresh D log.toNat).fmtB).1 ≠ 0 then (D.acts (fmtA log.toNat)).2.acts (fresh D log.toNat).fmtB else
        ((D.acts (fmtA log.toNat)).2.acts (fresh D log.toNat).fmtB).2.acts (fresh D log.toNat).headAs

/-- 'Open': a head that counts. -/
def counts (L : LogS) (i : Nat) (f : FrameV) : Prop :=
  f.kind = 1 ∧ f.num = 0 ∧ f.idx = 0 ∧ L.gen < f.gen ∧ f.gen % 2 = i ∧ 3 ≤ numAt f.page 0 ∧ numAt f.page 0 ≤ 4000 ∧ 1 ≤ numAt f.page 1 ∧ numAt f.page 1 ≤ 16384 ∧
    2 + numAt f.page 0 + numAt f.page 1 = L.disk.lasts.length ∧ f.page = numsPage [numAt f.page 0, numAt f.page 1]
instance (L : LogS) (i : Nat) (f : FrameV) : Decidable (L.counts i f) := by unfold counts; infer_instance
def chooses (L : LogS) (i : Nat) (s : Sec) : LogS :=
  if (parse s).sector = s ∧ L.counts i (parse s) then { L with gen := (parse s).gen, log := numAt (parse s).page 0, pages := numAt (parse s).page 1 } else L
/-- The frame at a place of the log; is it one of that kind, of the record that is looked for? -/
def atF (L : LogS) (place : Nat) : FrameV := if place < L.log then parse (L.disk.at_ ((2 + place : Nat) : Int)) else ⟨0, 0, 0, 0, Arr.zero⟩
def atOk (L : LogS) (place : Nat) (kind : UInt8) : Bool :=
  decide (place < L.log) && decide ((parse (L.disk.at_ ((2 + place : Nat) : Int))).sector = L.disk.at_ ((2 + place : Nat) : Int)) && decide ((L.atF place).kind = kind) && decide ((L.atF place).gen = L.gen) && decide ((L.atF place).num = L.records)
/-- The pages that a list names. -/
def names (f : FrameV) : List Nat := (List.range f.idx).map (numAt f.page)
def listed (L : LogS) (f : FrameV) : Bool := decide (∀ n ∈ names f, n < L.pages) && decide (names f).Nodup && decide (f.page = numsPage (names f))
/-- 'record': what the next one bears. -/
def images (L : LogS) (f : FrameV) : List (Nat × Page) := (List.range f.idx).map fun k => (numAt f.page k, (L.atF (L.used + 1 + k)).page)
def record (L : LogS) : Option (List (Nat × Page)) :=
  if L.atOk L.used 2 = true ∧ 1 ≤ (L.atF L.used).idx ∧ (L.atF L.used).idx ≤ 120 ∧ L.used + (L.atF L.used).idx + 2 ≤ L.log ∧ L.listed (L.atF L.used) = true ∧
      (∀ k < (L.atF L.used).idx, L.atOk (L.used + 1 + k) 3 = true ∧ (L.atF (L.used + 1 + k)).idx = k) ∧
      L.atOk (L.used + 1 + (L.atF L.used).idx) 4 = true ∧ (L.atF (L.used + 1 + (L.atF L.used).idx)).idx = (L.atF L.used).idx ∧ (L.atF (L.used + 1 + (L.atF L.used).idx)).page = Arr.zero
  then some (L.images (L.atF L.used)) else none
/-- All records, one behind the other. -/
def runs : Nat → LogS → LogS
  | 0, L => L
  | n + 1, L => match L.record with
    | none => L
    | some w => runs n (L.took w)
def blank (D : DiskS) : LogS := ⟨D, 0, 0, 0, 0, 0, fun _ => none, false⟩
def heads (D : DiskS) : LogS := ((blank D).chooses 0 (D.read 0).1).chooses 1 (D.read 1).1
/-- What 'Open' answers, the log, the disk. -/
def opens (D : DiskS) : Int × Option LogS × DiskS :=
  if (D.read 0).2 ≠ 0 then ((D.read 0).2, none, D) else if (D.read 1).2 ≠ 0 then ((D.read 1).2, none, D) else
    if (heads D).gen = 0 then (80, none, D) else
      if ((heads D).runs (heads D).log).checkpoint.1 ≠ 0 then (((heads D).runs (heads D).log).checkpoint.1, none, ((heads D).runs (heads D).log).checkpoint.2.disk)
      else (0, some ((heads D).runs (heads D).log).checkpoint.2, ((heads D).runs (heads D).log).checkpoint.2.disk)
end LogS
end Go.Cib
/-
  The log in memory: package wal's Log, and its small methods.
-/
namespace Go.Proofs.YtkjgbhpnlgcinaaGreatDoor
open Go.RowKit Go.Cib

/-- Block g is the log S; its disk is block d (with L, M), its map is block V. -/
structure LogAt (w : World) (g d L M V : Nat) (S : LogS) : Prop where
  hg : w.heap[g]? = some (.cells #[.pointer (some ⟨d, 0, none⟩), .int .i64 S.log, .int .i64 S.pages, .int .u64 S.gen, .int .i64 S.used, .int .u64 S.records, .map (some V), .bool S.dead] 120)
  hD : DiskAt w d L M S.disk
  hV : MapAt kInt w V (fun i => (S.over i).map fun x => .agg (secA x))
  gd : g ≠ d
  gL : g ≠ L
  gM : g ≠ M
  gV : g ≠ V
  dV : d ≠ V
  LV : L ≠ V
  MV : M ≠ V
theorem LogAt.touch {w w' : World} {g d L M V : Nat} {S : LogS} {X : List Nat} (h : LogAt w g d L M V S) (ht : Tch X w w') (h0 : g ∉ X) (h1 : d ∉ X) (h2 : L ∉ X) (h3 : M ∉ X) (h4 : V ∉ X) : LogAt w' g d L M V S :=
  ⟨ht.heap h.hg h0, h.hD.touch ht h1 h2 h3, h.hV.touch ht h4, h.gd, h.gL, h.gM, h.gV, h.dV, h.LV, h.MV⟩

set_option maxRecDepth 20000 in
set_option maxHeartbeats 400000 in
theorem told_any {w : World} {g d L M V : Nat} {S : LogS} (h : LogAt w g d L M V S) (e : Int) :
    Calls Tryz.prog 87 #[.pointer (some ⟨g, 0, none⟩), .int .i64 e] w fun x w' => x = .returned (.int .i64 e) ∧ LogAt w' g d L M V { S with dead := S.dead || e == 6 } ∧ Tch [g] w w' := by
  have c7 := cell_of_row w g 7 _ _ _ h.hg
  have f7 := frozen_of_row w g 7 _ _ h.hg
  simp only [List.getElem?_toArray, List.getElem?_cons_zero, List.getElem?_cons_succ] at c7
  have H := Lib.hid h
  clear h
  by_cases h6 : e = 6
  · subst h6
    go_enter Tryz.func87, Tryz.ntmps87
    go_wp2
    go_ret
    have ht : Tch [g] w (w.setCell ⟨g, 7, none⟩ (.bool true)) := (Tch.refl _ _).setCell (by simp) _
    have hh := H.out
    refine ⟨rfl, ⟨?_, hh.hD.touch ht (by simpa using hh.gd.symm) (by simpa using hh.gL.symm) (by simpa using hh.gM.symm), hh.hV.touch ht (by simpa using hh.gV.symm), hh.gd, hh.gL, hh.gM, hh.gV, hh.dV, hh.LV, hh.MV⟩, ht⟩
    rw [heap_setCell_cells hh.hg _ _]
    simp
  · go_enter Tryz.func87, Tryz.ntmps87
    go_wp2
    go_ret
    have hs : ({ S with dead := S.dead || e == 6 } : LogS) = S := by
      have : (e == 6) = false := by simpa using h6
      rw [this, Bool.or_false]
    rw [hs]
    exact ⟨rfl, H.out, Tch.refl _ _⟩
set_option maxRecDepth 20000 in
set_option maxHeartbeats 400000 in
theorem pages_any {w : World} {g d L M V : Nat} {S : LogS} (h : LogAt w g d L M V S) :
    Calls Tryz.prog 57 #[.pointer (some ⟨g, 0, none⟩)] w fun x w' => x = .returned (.int .i64 (if S.dead = true then 0 else (S.pages : Int))) ∧ w = w' := by
  have c2 := cell_of_row w g 2 _ _ _ h.hg
  have c7 := cell_of_row w g 7 _ _ _ h.hg
  simp only [List.getElem?_toArray, List.getElem?_cons_zero, List.getElem?_cons_succ] at c2 c7
  clear h
  obtain ⟨D, log, pages, gen, used, records, over, dead⟩ := S
  simp only at c2 c7
  cases dead with
  | true =>
    go_enter Tryz.func57, Tryz.ntmps57
    go_wp2
    go_ret
    exact ⟨rfl, rfl⟩
  | false =>
    go_enter Tryz.func57, Tryz.ntmps57
    go_wp2
    go_ret
    exact ⟨rfl, rfl⟩

end Go.Proofs.YtkjgbhpnlgcinaaGreatDoor
/-
  Small laws, for any program: values one behind the other; lists of one-cell values that grow.
-/
namespace Go.Cib
open Go Go.RowKit
/-- Values that lie one behind the other. -/
def ValsAt (w : World) (a : Option Addr) (vs : List Value) : Prop := ∀ (j : Nat) (v : Value), vs[j]? = some v → ∃ b o : Nat, a = some ⟨b, o, none⟩ ∧ w.cell? ⟨b, o + j, none⟩ = some v
theorem ValsAt.later {w w' : World} {a : Option Addr} {l : List Value} (h : ValsAt w a l) (ht : Tch [] w w') : ValsAt w' a l := by
  intro j n hj
  obtain ⟨b, o, e, hc⟩ := h j n hj
  exact ⟨b, o, e, cell_old ht hc⟩
/-- v is a slice of the call's own (blocks from B on) that holds l. -/
def OwnVals (w : World) (B : Nat) (e : TypeId) (v : Value) (l : List Value) : Prop := w.ownsRow B e 1 v l.length l
theorem ownVals_nil (w : World) (B : Nat) (e : TypeId) : OwnVals w B e (.slice none 0 0) [] := World.ownsRow_nil w B e 1
theorem OwnVals.shape {w : World} {B : Nat} {e : TypeId} {v : Value} {l : List Value} (h : OwnVals w B e v l) :
    (v = .slice none 0 0 ∧ l = []) ∨ ∃ g cap cur, v = .slice (some ⟨g, 0, none⟩) l.length cap ∧ B ≤ g ∧ w.heap[g]? = some (.cells cur e) ∧ l.length ≤ cap ∧ cap ≤ maxLen ∧ cur.size = cap ∧ cur.toList.take l.length = l := by
  obtain ⟨h1, h2⟩ := h
  rcases h2 with ⟨rfl, h3⟩ | ⟨g, cap, cur, rfl, h3, h4, h5, h6, h7, h8⟩
  · exact .inl ⟨rfl, List.eq_nil_of_length_eq_zero h3⟩
  · exact .inr ⟨g, cap, cur, rfl, h3, h4, h5, h6, by simpa using h7, by simpa using h8⟩
theorem OwnVals.kept {w w' : World} {B : Nat} {e : TypeId} {v : Value} {l : List Value} {S : List Nat} (h : OwnVals w B e v l) (ht : Tch S w w') (hn : ∀ g, v.ownBlock = some g → g ∉ S) : OwnVals w' B e v l := by
  obtain ⟨h1, h2⟩ := h
  refine ⟨h1, ?_⟩
  rcases h2 with h2 | ⟨g, cap, cur, rfl, h3, h4, h5⟩
  · exact .inl h2
  · exact .inr ⟨g, cap, cur, rfl, h3, ht.heap h4 (hn g rfl), h5⟩
theorem OwnVals.lt {w : World} {B : Nat} {e : TypeId} {v : Value} {l : List Value} (h : OwnVals w B e v l) : ∀ k ∈ v.ownBlock.toList, B ≤ k ∧ k < w.heap.size := by
  intro k hk
  rcases h.shape with ⟨rfl, _⟩ | ⟨g, cap, cur, rfl, hb, hg, _⟩
  · simp [Value.ownBlock] at hk
  · simp [Value.ownBlock] at hk
    subst hk
    exact ⟨hb, lt_of_heap hg⟩
/-- A list that is not empty lies in a block of its own. -/
theorem OwnVals.vals {w : World} {B : Nat} {e : TypeId} {v : Value} {l : List Value} (h : OwnVals w B e v l) : ∃ a cap, v = .slice a l.length cap ∧ ValsAt w a l ∧ ∀ b o, a = some ⟨b, o, none⟩ → B ≤ b := by
  rcases h.shape with ⟨rfl, rfl⟩ | ⟨g, cap, cur, rfl, hb, hg, hlc, _, hcs, htk⟩
  · exact ⟨none, 0, rfl, fun j v hj => by simp at hj, fun k o hk => by cases hk⟩
  · refine ⟨some ⟨g, 0, none⟩, cap, rfl, fun j v hj => ⟨g, 0, rfl, ?_⟩, fun k o hk => by cases hk; exact hb⟩
    have hjl := (List.getElem?_eq_some_iff.1 hj).1
    have h1 : (cur.toList.take l.length)[j]? = l[j]? := by rw [htk]
    rw [List.getElem?_take, if_pos hjl, Array.getElem?_toList, hj] at h1
    rw [Nat.zero_add, cell_of_row w g j _ _ _ hg]
    exact h1
/-- T is a type of slices of one-cell values of type e. -/
structure OneT (P : Program) (T e : TypeId) (z : Value) (by_ : Nat) : Prop where
  und : P.underlying T = some (.slice e)
  info : ∃ i, P.info? e = some i ∧ i.zero = some z ∧ i.size = 1 ∧ i.bytes = by_
  one : z.cells = #[z]
theorem OneT.of {P : Program} {T e : TypeId} {z : Value} {by_ : Nat} (h1 : P.underlying T = some (.slice e)) (h2 : (P.info? e).map (fun i => (i.zero, i.size, i.bytes)) = some (some z, 1, by_)) (h3 : z.cells = #[z]) : OneT P T e z by_ := by
  obtain ⟨i, hi, hi2⟩ := Option.map_eq_some_iff.1 h2
  simp only [Prod.mk.injEq] at hi2
  exact ⟨h1, ⟨i, hi, hi2⟩, h3⟩
section
variable {P : Program} {T e : TypeId} {ops : Array Oper} {rest : List Oper} {a : Act} {w : World} {Q : Exit → Act → World → Prop} {dst : Option Tmp} {ty : TypeId} {pos : String} {af : Array Edge} {x y : Operand}
/-- 'append(l, ..)' of a row of values in memory. -/
theorem wc_append_vals {z : Value} {by_ : Nat} (hT : OneT P T e z by_) (hby : by_ ≤ 16) {B : Nat} {v : Value} {l : List Value} (h : OwnVals w B e v l) (hB : B ≤ w.heap.size) {m : List Value} (hl : l.length + m.length ≤ 1000000) {ar : Array Operand} {ts : Array TypeId} (har : ar = #[x, y]) (hts : ts = #[T, T]) (hx : a.eval x = v)
    {ad : Addr} {cap : Nat} (hy : a.eval y = .slice (some ad) m.length cap) (hg : ValsAt w (some ad) m) (hone : ∀ u ∈ m, u.oneCell' = true)
    (h' : ∀ v' w', OwnVals w' B e v' (l ++ m) → Tch v.ownBlock.toList w w' → wpList P ops Q rest (a.put dst v') w') : wpList P ops Q (⟨dst, .call { callee := .builtin .append, args := ar, argTypes := ts }, ty, pos, af, none⟩ :: rest) a w := by
  subst har hts
  obtain ⟨i, h1, h2, h3, h4⟩ := hT.info
  refine wpList_append_own w rfl x y T rfl B e i z 1 by_ hT.und h1 h2 h3 h4 (by rw [hT.one]; rfl) (by decide) v l.length l hx h ad m.length cap m hy (by omega) ?_ hone ?_ ?_ hB ?_
  · intro j u hj
    obtain ⟨b, o, e1, hc⟩ := hg j u hj
    cases e1
    rw [add_mk]; exact hc
  · unfold maxLen; omega
  · have := Nat.mul_le_mul_left (l.length + m.length) hby
    omega
  · intro v' w' hown hgr _
    refine h' v' w' ?_ (Tch.of_grown hgr (fun k hk => by rw [hk]; simp))
    unfold OwnVals
    rw [List.length_append]
    exact hown
end
/-- Where a value of the list lies. -/
theorem OwnVals.at_ {w : World} {B : Nat} {e : TypeId} {v : Value} {l : List Value} (h : OwnVals w B e v l) {j : Nat} {x : Value} (hj : l[j]? = some x) : ∃ g cap, v = .slice (some ⟨g, 0, none⟩) l.length cap ∧ B ≤ g ∧ w.cell? ⟨g, j, none⟩ = some x ∧ w.frozen? ⟨g, j, none⟩ = false := by
  have hjl := (List.getElem?_eq_some_iff.1 hj).1
  rcases h.shape with ⟨_, rfl⟩ | ⟨g, cap, cur, rfl, hb, hg, hlc, _, hcs, htk⟩
  · simp at hj
  · refine ⟨g, cap, rfl, hb, ?_, frozen_of_row w g j _ _ hg⟩
    have h1 : (cur.toList.take l.length)[j]? = l[j]? := by rw [htk]
    rw [List.getElem?_take, if_pos hjl, Array.getElem?_toList, hj] at h1
    rw [cell_of_row w g j _ _ _ hg]
    exact h1
theorem OwnVals.cap_ {w : World} {B : Nat} {e : TypeId} {v : Value} {l : List Value} (h : OwnVals w B e v l) : ∃ a cap, v = .slice a l.length cap ∧ l.length ≤ cap ∧ cap ≤ maxLen := by
  rcases h.shape with ⟨rfl, rfl⟩ | ⟨g, cap, cur, rfl, hb, hg, hlc, hm, hcs, htk⟩
  · exact ⟨none, 0, rfl, Nat.le_refl _, by unfold maxLen; omega⟩
  · exact ⟨_, _, rfl, hlc, hm⟩
/-- A value is written in place. -/
theorem OwnVals.set {w : World} {B : Nat} {e : TypeId} {g cap : Nat} {l : List Value} {n : Nat} (h : OwnVals w B e (.slice (some ⟨g, 0, none⟩) n cap) l) {j : Nat} (x : Value) : OwnVals (w.setCell ⟨g, j, none⟩ x) B e (.slice (some ⟨g, 0, none⟩) n cap) (l.set j x) := by
  obtain ⟨h1, h2⟩ := h
  refine ⟨by simp, ?_⟩
  rcases h2 with ⟨h2, _⟩ | ⟨g', cap', cur, e', h3, h4, h5, h6, h7, h8⟩
  · cases h2
  · cases e'
    refine .inr ⟨g, cap, cur.setIfInBounds j x, by simp, h3, heap_setCell_cells h4 _ _, by simpa using h5, h6, by simpa using h7, ?_⟩
    have h8' : cur.toList.take l.length = l := by simpa using h8
    rw [Array.toList_setIfInBounds, List.length_set, Nat.mul_one]
    rw [List.take_set, h8']
end Go.Cib
/-
  Small laws, for any program: structs written out of parts, of which one is a whole array.
-/
namespace Go.Cib
open Go Go.RowKit
/-- The fields of a struct's type. -/
def fieldsOf (d : Option TypeDesc) : Array Field := match d with | some (.struct f) => f | _ => #[]
theorem fieldsOf_spec {d : Option TypeDesc} (h : (match d with | some (.struct _) => true | _ => false) = true) : d = some (.struct (fieldsOf d)) := by
  cases d with
  | none => cases h
  | some x => cases x <;> first | rfl | cases h
theorem foldl_put (off : Nat) : ∀ (l : List Value) (n : Nat) (cells : Array Value) (k : Nat), ((l.zipIdx n).foldl (fun (cs : Array Value) (q : Value × Nat) => cs.setIfInBounds (off + q.2) q.1) cells)[k]? =
    if off + n ≤ k ∧ k < off + n + l.length ∧ k < cells.size then l[k - off - n]? else cells[k]?
  | [], n, cells, k => by
    rw [if_neg (by simp; omega)]; rfl
  | x :: r, n, cells, k => by
    rw [List.zipIdx_cons, List.foldl_cons, foldl_put off r (n + 1) _ k]
    simp only [Array.size_setIfInBounds, List.length_cons, Array.getElem?_setIfInBounds]
    by_cases h1 : k = off + n
    · subst h1
      rw [if_neg (by omega)]
      by_cases h2 : off + n < cells.size
      · rw [if_pos rfl, if_pos h2, if_pos (by omega), show off + n - off - n = 0 by omega]
        rfl
      · rw [if_pos rfl, if_neg h2, if_neg (by omega), Array.getElem?_eq_none (by omega)]
    · by_cases h2 : off + (n + 1) ≤ k ∧ k < off + (n + 1) + r.length ∧ k < cells.size
      · rw [if_pos h2, if_pos (by omega), show k - off - n = (k - off - (n + 1)) + 1 by omega, List.getElem?_cons_succ]
      · rw [if_neg h2, if_neg (fun (e : off + n = k) => h1 e.symm), if_neg (by omega)]
theorem foldl_spl (off : Nat) (vs cells : Array Value) (h : off + vs.size ≤ cells.size) : vs.zipIdx.foldl (fun (cs : Array Value) (q : Value × Nat) => cs.setIfInBounds (off + q.2) q.1) cells = spl cells off vs := by
  apply Array.ext_getElem?
  intro k
  have e : vs.zipIdx.foldl (fun (cs : Array Value) (q : Value × Nat) => cs.setIfInBounds (off + q.2) q.1) cells = (vs.toList.zipIdx 0).foldl (fun (cs : Array Value) (q : Value × Nat) => cs.setIfInBounds (off + q.2) q.1) cells := by
    rw [← Array.foldl_toList, Array.toList_zipIdx]
  rw [e, foldl_put]
  simp only [spl, List.getElem?_toArray, Array.length_toList]
  have hl : (cells.toList.take off).length = off := by simp; omega
  by_cases h1 : k < off
  · rw [if_neg (by omega), List.append_assoc, List.getElem?_append_left (by omega), List.getElem?_take, if_pos h1, Array.getElem?_toList]
  · by_cases h2 : k < off + vs.size
    · rw [if_pos (by omega), List.append_assoc, List.getElem?_append_right (by omega), hl, List.getElem?_append_left (by simp; omega)]
      rfl
    · rw [if_neg (by omega), List.getElem?_append_right (by simp; omega)]
      simp only [List.length_append, hl, Array.length_toList, List.getElem?_drop, Array.getElem?_toList]
      congr 1
      omega
theorem fill_cons {place : Nat → Option (Nat × Nat)} {cells : Array Value} {i : Nat} {v : Value} {rest : List (Nat × Value)} {off size : Nat} (hp : place i = some (off, size)) (hs : v.cells.size = size) (hb : off + size ≤ cells.size) :
    Instr.fill place cells ((i, v) :: rest) = Instr.fill place (spl cells off v.cells) rest := by
  rw [Instr.fill, hp]
  simp only
  rw [if_neg (by simp; omega), ← foldl_spl off v.cells cells (by omega)]
theorem run_build_fill {P : Program} {T : TypeId} {fields : Array Field} {places : Array (Nat × Nat)} {z : Array Value} (hz : ∃ i, P.info? T = some i ∧ i.zero = some (.agg z)) (hu : P.underlying T = some (.struct fields))
    (hm : ∀ w, (Array.mapM (fun (f : Field) => Prod.mk f.offset <$> sizeOf f.type) fields : Sem (Array (Nat × Nat))).run P w = .ok places w) {parts : Array (Nat × Value)} {cells : Array Value} (hf : Instr.fill (places[·]?) z parts.toList = some cells) (w : World) :
    (Instr.build T parts).run P w = .ok (.agg cells) w := by
  obtain ⟨i, h1, h2⟩ := hz
  unfold Instr.build
  simp only [zeroValue, typeInfo, Sem.run_bind]
  simp [run_underlying hu, h1, h2, Value.cells]
  rw [hm]
  simp [hf]
theorem exec_build_fill {P : Program} {T : TypeId} {fields : Array Field} {places : Array (Nat × Nat)} {z : Array Value} (hz : ∃ i, P.info? T = some i ∧ i.zero = some (.agg z)) (hu : P.underlying T = some (.struct fields))
    (hm : ∀ w, (Array.mapM (fun (f : Field) => Prod.mk f.offset <$> sizeOf f.type) fields : Sem (Array (Nat × Nat))).run P w = .ok places w) {a : Act} {w : World} {dst : Option Tmp} {ty : TypeId} {pos : String} {af : Array Edge} {gd : Option (Nat × Bool)} {ps : Array (Nat × Operand)} {l : List (Nat × Value)} {cells : Array Value}
    (hl : ps.toList.map (fun q => (q.1, a.eval q.2)) = l) (hf : Instr.fill (places[·]?) z l = some cells) : (execOp a.eval ⟨dst, .build T ps, ty, pos, af, gd⟩).run P w = .ok (.value (.agg cells)) w := by
  have h := run_build_fill (P := P) (T := T) hz hu hm (parts := ps.map fun q => (q.1, a.eval q.2)) (cells := cells) (by rw [Array.toList_map, hl]; exact hf) w
  unfold execOp
  simp [h]
def framePlaces : Array (Nat × Nat) := #[(0, 1), (1, 1), (2, 1), (3, 1), (4, 480)]
def fillF (f : FrameV) (l : List (Nat × Value)) : Option (Array Value) := Instr.fill (framePlaces[·]?) (frameA f) l
theorem spl_one (c : Array Value) (off : Nat) (v : Value) (h : off < c.size) : spl c off #[v] = c.setIfInBounds off v := by
  rw [← foldl_spl off #[v] c (by simp; omega)]
  simp
theorem fillF_kind (f : FrameV) (k : UInt8) (l : List (Nat × Value)) : fillF f ((0, .int .u8 k.toNat) :: l) = fillF { f with kind := k } l := by
  unfold fillF
  rw [fill_cons (off := 0) (size := 1) rfl rfl (by rw [size_frameA]; omega)]
  have h : spl (frameA f) 0 (Value.int .u8 k.toNat).cells = frameA { f with kind := k } := (spl_one _ _ _ (by rw [size_frameA]; omega)).trans (frame_set0 f k)
  rw [h]
theorem fillF_gen (f : FrameV) (n : Nat) (l : List (Nat × Value)) : fillF f ((1, .int .u64 n) :: l) = fillF { f with gen := n } l := by
  unfold fillF
  rw [fill_cons (off := 1) (size := 1) rfl rfl (by rw [size_frameA]; omega)]
  have h : spl (frameA f) 1 (Value.int .u64 n).cells = frameA { f with gen := n } := (spl_one _ _ _ (by rw [size_frameA]; omega)).trans (frame_set1 f n)
  rw [h]
theorem fillF_idx (f : FrameV) (n : Nat) (l : List (Nat × Value)) : fillF f ((3, .int .u32 n) :: l) = fillF { f with idx := n } l := by
  unfold fillF
  rw [fill_cons (off := 3) (size := 1) rfl rfl (by rw [size_frameA]; omega)]
  have h : spl (frameA f) 3 (Value.int .u32 n).cells = frameA { f with idx := n } := (spl_one _ _ _ (by rw [size_frameA]; omega)).trans (frame_set3 f n)
  rw [h]
theorem spl_page (f : FrameV) (p : Page) : spl (frameA f) 4 (secA p) = frameA { f with page := p } := by
  apply Array.toList_inj.1
  have h4 : (frameA f).toList.take 4 = [bv f.kind, .int .u64 f.gen, .int .u64 f.num, .int .u32 f.idx] := by simp [frameA]
  simp only [spl]
  rw [h4, List.drop_of_length_le (by rw [Array.length_toList, size_frameA, size_secA]; omega), List.append_nil]
  simp [frameA]
theorem fillF_page (f : FrameV) (p : Page) (l : List (Nat × Value)) : fillF f ((4, .agg (secA p)) :: l) = fillF { f with page := p } l := by
  unfold fillF
  rw [fill_cons (off := 4) (size := 480) rfl (by exact size_secA p) (by rw [size_frameA]; omega)]
  rw [show spl (frameA f) 4 (Value.agg (secA p)).cells = frameA { f with page := p } from spl_page f p]
theorem fillF_nil (f : FrameV) : fillF f [] = some (frameA f) := rfl
/-- An image: a page's number, what is to stand there. -/
def imageA (i : Int) (p : Page) : Array Value := #[.int .i64 i] ++ secA p
theorem size_imageA (i : Int) (p : Page) : (imageA i p).size = 481 := by simp [imageA]
theorem imageA_one (i : Int) (p : Page) : ∀ v ∈ (imageA i p).toList, v.oneCell' = true := by
  intro v hv
  simp only [imageA, Array.toList_append, List.mem_append] at hv
  rcases hv with hv | hv
  · simp at hv; rw [hv]; rfl
  · exact secA_one _ v hv
def imagePlaces : Array (Nat × Nat) := #[(0, 1), (1, 480)]
def fillI (i : Int) (p : Page) (l : List (Nat × Value)) : Option (Array Value) := Instr.fill (imagePlaces[·]?) (imageA i p) l
theorem image_set0 (i j : Int) (p : Page) : (imageA i p).setIfInBounds 0 (.int .i64 j) = imageA j p := by
  unfold imageA; rw [Array.setIfInBounds_append_left (by simp)]; rfl
theorem spl_imagePage (i : Int) (p q : Page) : spl (imageA i p) 1 (secA q) = imageA i q := by
  apply Array.toList_inj.1
  have h4 : (imageA i p).toList.take 1 = [.int .i64 i] := by simp [imageA]
  simp only [spl]
  rw [h4, List.drop_of_length_le (by rw [Array.length_toList, size_imageA, size_secA]; omega), List.append_nil]
  simp [imageA]
theorem fillI_num (i j : Int) (p : Page) (l : List (Nat × Value)) : fillI i p ((0, .int .i64 j) :: l) = fillI j p l := by
  unfold fillI
  rw [fill_cons (off := 0) (size := 1) rfl rfl (by rw [size_imageA]; omega)]
  rw [show spl (imageA i p) 0 (Value.int .i64 j).cells = imageA j p from (spl_one _ _ _ (by rw [size_imageA]; omega)).trans (image_set0 i j p)]
theorem fillI_page (i : Int) (p q : Page) (l : List (Nat × Value)) : fillI i p ((1, .agg (secA q)) :: l) = fillI i q l := by
  unfold fillI
  rw [fill_cons (off := 1) (size := 480) rfl (by exact size_secA q) (by rw [size_imageA]; omega)]
  rw [show spl (imageA i p) 1 (Value.agg (secA q)).cells = imageA i q from spl_imagePage i p q]
theorem fillI_nil (i : Int) (p : Page) : fillI i p [] = some (imageA i p) := rfl
end Go.Cib
namespace Go.Proofs.YtkjgbhpnlgcinaaGreatDoor
open Go.RowKit Go.Cib
theorem frameFields : Tryz.prog.underlying 155 = some (.struct (fieldsOf (Tryz.prog.underlying 155))) := fieldsOf_spec (by kernel_rfl)
theorem framePl (w : World) : (Array.mapM (fun (f : Field) => Prod.mk f.offset <$> sizeOf f.type) (fieldsOf (Tryz.prog.underlying 155)) : Sem (Array (Nat × Nat))).run Tryz.prog w = .ok framePlaces w := by kernel_rfl
theorem exec_build_fr {a : Act} {w : World} {dst : Option Tmp} {ty : TypeId} {pos : String} {af : Array Edge} {gd : Option (Nat × Bool)} {ps : Array (Nat × Operand)} {l : List (Nat × Value)} {f : FrameV}
    (hf : fillF FrameV.zero l = some (frameA f)) (hl : ps.toList.map (fun q => (q.1, a.eval q.2)) = l) : (execOp a.eval ⟨dst, .build 155 ps, ty, pos, af, gd⟩).run Tryz.prog w = .ok (.value (.agg (frameA f))) w :=
  exec_build_fill frameTT.info frameFields framePl hl hf
theorem wc_build_fr {ops : Array Oper} {rest : List Oper} {a : Act} {w : World} {Q : Exit → Act → World → Prop} {dst : Option Tmp} {ty : TypeId} {pos : String} {af : Array Edge} {ps : Array (Nat × Operand)} {l : List (Nat × Value)} {f : FrameV}
    (hf : fillF FrameV.zero l = some (frameA f)) (hl : ps.toList.map (fun q => (q.1, a.eval q.2)) = l) (h : wpList Tryz.prog ops Q rest (a.put dst (.agg (frameA f))) w) : wpList Tryz.prog ops Q (⟨dst, .build 155 ps, ty, pos, af, none⟩ :: rest) a w :=
  wc_value rfl (exec_build_fr hf hl) h
theorem wq_build_fr {ops : Array Oper} {C : World → Prop} {Qs : Act → Prop} {rest : List Oper} {a : Act} {dst : Option Tmp} {ty : TypeId} {pos : String} {af : Array Edge} {gd : Option (Nat × Bool)} {ps : Array (Nat × Operand)} {l : List (Nat × Value)} {f : FrameV}
    (hf : fillF FrameV.zero l = some (frameA f)) (hw : Region.wanted ⟨dst, .build 155 ps, ty, pos, af, gd⟩ (yielded ops a.tmps) = true) (hl : ps.toList.map (fun q => (q.1, a.eval q.2)) = l) (h : wpQuiet Tryz.prog ops C Qs rest (a.put dst (.agg (frameA f)))) :
    wpQuiet Tryz.prog ops C Qs (⟨dst, .build 155 ps, ty, pos, af, gd⟩ :: rest) a :=
  wq_value hw (fun _ _ => exec_build_fr hf hl) h
theorem imgT : AggT Tryz.prog 84 481 := by
  refine ⟨?_, ?_⟩
  · have h : (Tryz.prog.underlying 84).map (fun d => match d with | .struct _ | .array _ _ => true | _ => false) = some true := by kernel_rfl
    obtain ⟨d, h1, h2⟩ := Option.map_eq_some_iff.1 h
    exact ⟨d, h1, h2⟩
  · have h : (Tryz.prog.info? 84).map (·.size) = some 481 := by kernel_rfl
    obtain ⟨d, h1, h2⟩ := Option.map_eq_some_iff.1 h
    exact ⟨d, h1, h2⟩
theorem imgZero : ∃ i, Tryz.prog.info? 84 = some i ∧ i.zero = some (.agg (imageA 0 Arr.zero)) := by
  have h : (Tryz.prog.info? 84).map (·.zero) = some (some (.agg (imageA 0 Arr.zero))) := by kernel_rfl
  obtain ⟨d, h1, h2⟩ := Option.map_eq_some_iff.1 h
  exact ⟨d, h1, h2⟩
theorem imgFields : Tryz.prog.underlying 84 = some (.struct (fieldsOf (Tryz.prog.underlying 84))) := fieldsOf_spec (by kernel_rfl)
theorem imgPl : ∀ w : World, (Array.mapM (fun (f : Field) => Prod.mk f.offset <$> sizeOf f.type) (fieldsOf (Tryz.prog.underlying 84)) : Sem (Array (Nat × Nat))).run Tryz.prog w = .ok imagePlaces w := fun _ => by kernel_rfl
theorem wc_build_img {ops : Array Oper} {rest : List Oper} {a : Act} {w : World} {Q : Exit → Act → World → Prop} {dst : Option Tmp} {ty : TypeId} {pos : String} {af : Array Edge} {ps : Array (Nat × Operand)} {l : List (Nat × Value)} {i : Int} {p : Page}
    (hf : fillI 0 Arr.zero l = some (imageA i p)) (hl : ps.toList.map (fun q => (q.1, a.eval q.2)) = l) (h : wpList Tryz.prog ops Q rest (a.put dst (.agg (imageA i p))) w) : wpList Tryz.prog ops Q (⟨dst, .build 84 ps, ty, pos, af, none⟩ :: rest) a w :=
  wc_value rfl (exec_build_fill imgZero imgFields imgPl hl hf) h
end Go.Proofs.YtkjgbhpnlgcinaaGreatDoor
/-
  The log in memory: what goes to the disk: home, head.
-/
namespace Go.Cib
open Go Go.RowKit
theorem exec_alloc_frame {P : Program} {T : TypeId} (hT : FrameT P T) {a : Act} {w : World} {dst : Option Tmp} {ty : TypeId} {pos : String} {af : Array Edge} {gd : Option (Nat × Bool)} : (execOp a.eval ⟨dst, .alloc T, ty, pos, af, gd⟩).run P w = .ok (.value (.pointer (some ⟨w.heap.size, 0, none⟩))) (w.alloc (.cells (frameA FrameV.zero) T)) := by
  obtain ⟨i, h1, h2⟩ := hT.info
  generalize frameA FrameV.zero = z at *
  exact exec_alloc h1 h2 rfl
end Go.Cib
namespace Go.Proofs.YtkjgbhpnlgcinaaGreatDoor
open Go.RowKit Go.Cib
set_option maxRecDepth 20000 in
theorem cf_sector2 (args : Array Value) (w : World) : (callFunc 115 args).run Tryz.prog w = .ok (.enter 115 args) w := rfl
/-- The disk went on; else nothing of the log was touched. -/
theorem LogAt.disk {w w' : World} {g d L M V : Nat} {S : LogS} {D : DiskS} (h : LogAt w g d L M V S) (hD : DiskAt w' d L M D) (ht : Tch [d, L, M] w w') : LogAt w' g d L M V { S with disk := D } :=
  ⟨ht.heap h.hg (by simp; exact ⟨h.gd, h.gL, h.gM⟩), hD, h.hV.touch ht (by simp; exact ⟨h.dV.symm, h.LV.symm, h.MV.symm⟩), h.gd, h.gL, h.gM, h.gV, h.dV, h.LV, h.MV⟩
theorem LogAt.cell {w : World} {g d L M V : Nat} {S : LogS} (h : LogAt w g d L M V S) (j : Nat) {v : Value} (hv : (#[.pointer (some ⟨d, 0, none⟩), .int .i64 S.log, .int .i64 S.pages, .int .u64 S.gen, .int .i64 S.used, .int .u64 S.records, .map (some V), .bool S.dead] : Array Value)[j]? = some v) : w.cell? ⟨g, j, none⟩ = some v := by
  rw [cell_of_row w g j _ _ _ h.hg]; exact hv
theorem LogAt.froz {w : World} {g d L M V : Nat} {S : LogS} (h : LogAt w g d L M V S) (j : Nat) : w.frozen? ⟨g, j, none⟩ = false := frozen_of_row w g j _ _ h.hg
theorem convU32 (n : Nat) (h : n < 4294967296) : IntKind.u32.wrap (n : Int) = n := by
  simp [IntKind.wrap, IntKind.bits, IntKind.signed]; omega
/-- The log but for its map. -/
structure LogF (w : World) (g d L M : Nat) (ov : Option Nat) (S : LogS) : Prop where
  hg : w.heap[g]? = some (.cells #[.pointer (some ⟨d, 0, none⟩), .int .i64 S.log, .int .i64 S.pages, .int .u64 S.gen, .int .i64 S.used, .int .u64 S.records, .map ov, .bool S.dead] 120)
  hD : DiskAt w d L M S.disk
  gd : g ≠ d
  gL : g ≠ L
  gM : g ≠ M
theorem LogAt.f {w : World} {g d L M V : Nat} {S : LogS} (h : LogAt w g d L M V S) : LogF w g d L M (some V) S := ⟨h.hg, h.hD, h.gd, h.gL, h.gM⟩
theorem LogF.touch {w w' : World} {g d L M : Nat} {ov : Option Nat} {S : LogS} {X : List Nat} (h : LogF w g d L M ov S) (ht : Tch X w w') (h0 : g ∉ X) (h1 : d ∉ X) (h2 : L ∉ X) (h3 : M ∉ X) : LogF w' g d L M ov S :=
  ⟨ht.heap h.hg h0, h.hD.touch ht h1 h2 h3, h.gd, h.gL, h.gM⟩
theorem LogF.disk {w w' : World} {g d L M : Nat} {ov : Option Nat} {S : LogS} {D : DiskS} (h : LogF w g d L M ov S) (hD : DiskAt w' d L M D) (ht : Tch [d, L, M] w w') : LogF w' g d L M ov { S with disk := D } :=
  ⟨ht.heap h.hg (by simp; exact ⟨h.gd, h.gL, h.gM⟩), hD, h.gd, h.gL, h.gM⟩
theorem LogF.cell {w : World} {g d L M : Nat} {ov : Option Nat} {S : LogS} (h : LogF w g d L M ov S) (j : Nat) {v : Value} (hv : (#[.pointer (some ⟨d, 0, none⟩), .int .i64 S.log, .int .i64 S.pages, .int .u64 S.gen, .int .i64 S.used, .int .u64 S.records, .map ov, .bool S.dead] : Array Value)[j]? = some v) : w.cell? ⟨g, j, none⟩ = some v := by
  rw [cell_of_row w g j _ _ _ h.hg]; exact hv

set_option maxRecDepth 20000 in
set_option maxHeartbeats 400000 in
theorem home_f {w : World} {g d L M : Nat} {ov : Option Nat} {S : LogS} (h : LogF w g d L M ov S) (p : Nat) (x : Page) (hl : S.log ≤ 4000) (hp : p < 16384) (hg : S.gen < 18446744073709551616) :
    Calls Tryz.prog 69 #[.pointer (some ⟨g, 0, none⟩), .int .i64 p, .agg (secA x)] w fun e w' =>
      e = .returned (.int .i64 (S.disk.act (S.homeA p x)).1) ∧ LogF w' g d L M ov { S with disk := (S.disk.act (S.homeA p x)).2 } ∧ Tch [d, L, M] w w' := by
  obtain ⟨w1, hw1⟩ : ∃ w1, w.alloc (.cells (secA x) 54) = w1 := ⟨_, rfl⟩
  have hB : w1.heap[w.heap.size]? = some (.cells (secA x) 54) := by
    rw [← hw1, heap_alloc, if_pos rfl]
  have ht : Tch [] w w1 := by rw [← hw1]; exact (Tch.refl _ _).alloc _
  have HW1 := Lib.hid hw1
  have H1 := Lib.hid (h.touch ht (by simp) (by simp) (by simp) (by simp))
  have HT := Lib.hid ht
  have HB := Lib.hid hB
  clear hw1 ht hB h
  go_enter Tryz.func69, Tryz.ntmps69
  go_upto_region 1 with (((with_reducible refine wc_box_agg ?_ ?_); exact rfl; go_frame))
  rw [HW1.out]
  have C0 : Hid (∀ w', Tch [] w1 w' → w'.cell? ⟨g, 0, none⟩ = some (.pointer (some ⟨d, 0, none⟩))) := fun w' h => cell_old h (H1.out.cell 0 rfl)
  have C1 : Hid (∀ w', Tch [] w1 w' → w'.cell? ⟨g, 1, none⟩ = some (.int .i64 S.log)) := fun w' h => cell_old h (H1.out.cell 1 rfl)
  have C3 : Hid (∀ w', Tch [] w1 w' → w'.cell? ⟨g, 3, none⟩ = some (.int .u64 S.gen)) := fun w' h => cell_old h (H1.out.cell 3 rfl)
  have CB : Hid (∀ w', Tch [] w1 w' → w'.heap[w.heap.size]? = some (.cells (secA x) 54)) := fun w' h => h.heap HB.out (by simp)
  have hok : (S.homeF p x).Ok := ⟨hg, by show (0 : Nat) < _; omega, by show p < _; omega⟩
  have CS : Hid (∀ w', Tch [] w1 w' → Calls Tryz.prog 115 #[.agg (frameA (S.homeF p x))] w' fun e w'' => e = .returned (.agg (secA (S.homeF p x).sector)) ∧ Tch [] w1 w'') := fun w' h => (sector_any (S.homeF p x) hok w').mono (by rintro e w'' ⟨h1, h2⟩; exact ⟨h1, h.trans h2⟩)
  have FILL : Hid (fillF FrameV.zero [(0, .int .u8 5), (1, .int .u64 S.gen), (3, .int .u32 p), (4, .agg (secA x))] = some (frameA (S.homeF p x))) := by
    show fillF FrameV.zero [(0, .int .u8 (5 : UInt8).toNat), (1, .int .u64 S.gen), (3, .int .u32 p), (4, .agg (secA x))] = _
    rw [fillF_kind, fillF_gen, fillF_idx, fillF_page, fillF_nil]
    rfl
  have W1 : wrap64 (2 + S.log) = 2 + S.log := by unfold wrap64; omega
  have W2 : wrap64 (2 + S.log + p) = 2 + S.log + p := by unfold wrap64; omega
  have W3 := convU32 p (by omega)
  clear HW1 hl hp hg hok
  refine wp_region_walk (C := fun w' => Tch [] w1 w') 20 (by kernel_rfl) (by kernel_rfl) ((Tch.refl _ _).drew) ?_
  simp only [List.take_succ_cons, List.take_zero, List.drop_succ_cons, List.drop_zero]
  (repeat (first
      | ((with_reducible refine wq_load_cell (by kernel_rfl) C0.out ?_ ?_ ?_); exact rfl; exact rfl; go_frame)
      | ((with_reducible refine wq_load_cell (by kernel_rfl) C1.out ?_ ?_ ?_); exact rfl; exact rfl; go_frame)
      | ((with_reducible refine wq_load_cell (by kernel_rfl) C3.out ?_ ?_ ?_); exact rfl; exact rfl; go_frame)
      | ((with_reducible refine wq_load_var pageT CB.out ?_ ?_ ?_); exact rfl; exact rfl; go_frame)
      | ((with_reducible refine wq_build_fr FILL.out ?_ ?_ ?_); exact rfl; exact rfl; go_frame)
      | ((with_reducible refine wq_fn cf_sector2 ?_ ?_ CS.out ?_); exact rfl; exact rfl; go_frame)
      | go_big_quiet_skip | (go_big_quiet_want; go_big_quiet_op; first | go_big_quiet_on | (refine ⟨_, fun _ _ => rfl, ?_⟩; go_big_quiet_on))))
  refine wpQuiet_nil ?_
  intro w2 ht2
  have H2 := Lib.hid (H1.out.touch ht2 (by simp) (by simp) (by simp) (by simp))
  have T2 := Lib.hid (HT.out.trans ht2)
  clear ht2 C0 C1 C3 CB CS FILL
  go_wp2_with (go_at_call 66; refine (write_any H2.out.hD _ _).mono ?_; rintro e w' ⟨rfl, hq1, hq2⟩; have HQ1 := Lib.hid hq1; have HQ2 := Lib.hid hq2; clear hq1 hq2)
  go_ret
  have e : S.disk.act (S.homeA p x) = S.disk.write (2 + S.log + p) (S.homeF p x).sector := rfl
  rw [e]
  exact ⟨rfl, H2.out.disk HQ1.out HQ2.out, (T2.out.mono (by simp)).trans HQ2.out⟩

theorem step_guard {o : Oper} {ops : Array Oper} {tmps : Array Value} {gi d : Nat} {b : Bool} {A C : Prop} (hg : o.guard = some (gi, b)) (hd : (ops[gi]?).bind (·.dst) = some d) (hv : tmps[d]?.getD undef = .bool b) (h : A) :
    (Region.wanted o (yielded ops tmps) = true → A) ∧ (Region.wanted o (yielded ops tmps) = false → C) := by
  refine ⟨fun _ => h, fun hc => ?_⟩
  have e : tmps[d]? = some (.bool b) := by
    cases ht : tmps[d]? with
    | none => rw [ht] at hv; cases hv
    | some v => rw [ht] at hv; exact congrArg some hv
  have : Region.wanted o (yielded ops tmps) = true := by
    unfold Region.wanted
    rw [hg]
    simp only [yielded, hd, Option.bind_some, e]
    simp
  rw [this] at hc
  cases hc
theorem nums_two (w : World) (m n : Nat) : NumsAt (w.alloc (.cells #[.int .u32 m, .int .u32 n] 126)) (some ⟨w.heap.size, 0, none⟩) [m, n] := by
  intro j v hj
  refine ⟨w.heap.size, 0, rfl, ?_⟩
  rw [cell_of_row _ _ _ _ _ _ (heap_alloc_new w _)]
  match j, hj with
  | 0, hj => simp at hj; subst hj; rfl
  | 1, hj => simp at hj; subst hj; rfl
  | j + 2, hj => simp at hj
def KHead (w0 : World) (g : Nat) (S : LogS) : Nat → Value → World → Prop
  | 0, v, _ => v = .pointer (some ⟨g, 0, none⟩)
  | 1, v, _ => v = .pointer (some ⟨g, 0, none⟩)
  | 2, v, _ => v = .pointer (some ⟨g, 3, none⟩)
  | 3, v, _ => v = .int .u64 S.gen
  | 4, v, _ => v = .pointer (some ⟨g, 0, none⟩)
  | 5, v, _ => v = .pointer (some ⟨g, 0, none⟩)
  | 6, v, _ => v = .pointer (some ⟨g, 1, none⟩)
  | 7, v, _ => v = .int .i64 S.log
  | 8, v, _ => v = .int .u32 S.log
  | 9, v, _ => v = .pointer (some ⟨g, 0, none⟩)
  | 10, v, _ => v = .pointer (some ⟨g, 0, none⟩)
  | 11, v, _ => v = .pointer (some ⟨g, 2, none⟩)
  | 12, v, _ => v = .int .i64 S.pages
  | 13, v, _ => v = .int .u32 S.pages
  | 14, v, w => ∃ k, v = .slice (some ⟨k, 0, none⟩) 2 2 ∧ NumsAt w (some ⟨k, 0, none⟩) [S.log, S.pages]
  | 15, v, _ => v = .agg (secA (numsPage [S.log, S.pages]))
  | 16, v, _ => v = .agg (frameA S.headF)
  | _, v, w => ∃ F, v = .pointer (some ⟨F, 0, none⟩) ∧ w0.heap.size ≤ F ∧ w.heap[F]? = some (.cells (frameA FrameV.zero) 155)
theorem KHead.later {w0 : World} {g : Nat} {S : LogS} {j : Nat} {v : Value} {w w' : World} (h : KHead w0 g S j v w) (ht : Tch [] w w') : KHead w0 g S j v w' := by
  unfold KHead at h ⊢
  split at h <;> first | exact h | (obtain ⟨k, e, hk⟩ := h; exact ⟨k, e, hk.later ht⟩) | (obtain ⟨k, e, h1, hk⟩ := h; exact ⟨k, e, h1, ht.heap hk (by simp)⟩)

set_option maxRecDepth 20000 in
set_option maxHeartbeats 1000000 in
theorem head_f {w : World} {g d L M : Nat} {ov : Option Nat} {S : LogS} (h : LogF w g d L M ov S) (hl : S.log ≤ 4000) (hp : S.pages ≤ 16384) (hg : S.gen < 18446744073709551616) :
    Calls Tryz.prog 70 #[.pointer (some ⟨g, 0, none⟩)] w fun e w' =>
      e = .returned (.int .i64 (S.disk.acts S.headAs).1) ∧ LogF w' g d L M ov { S with disk := (S.disk.acts S.headAs).2 } ∧ Tch [d, L, M] w w' := by
  have c1 := h.cell 1 rfl
  have c2 := h.cell 2 rfl
  have c3 := h.cell 3 rfl
  have W3 := convU32 S.log (by omega)
  have W4 := convU32 S.pages (by omega)
  have H := Lib.hid h
  have hok : S.headF.Ok := ⟨hg, by show (0 : Nat) < _; omega, by show (0 : Nat) < _; omega⟩
  have OK := Lib.hid hok
  have FILL : Hid (fillF FrameV.zero [(0, .int .u8 1), (1, .int .u64 S.gen), (4, .agg (secA (numsPage [S.log, S.pages])))] = some (frameA S.headF)) := by
    show fillF FrameV.zero [(0, .int .u8 (1 : UInt8).toNat), (1, .int .u64 S.gen), (4, .agg (secA (numsPage [S.log, S.pages])))] = _
    rw [fillF_kind, fillF_gen, fillF_page, fillF_nil]
    rfl
  clear h hok
  go_enter Tryz.func70, Tryz.ntmps70
  go_upto_region 1 with fail
  refine wp_region_valt 18 (fun w' => Tch [] w w') (KHead w g S) (by kernel_rfl) (by kernel_rfl) (by kernel_rfl) ((Tch.refl _ _).drew) (fun w4 w5 _ _ ht i v hk => hk.later ht) ?_ ?_
  · intro i o hi ho fu w' hC hold hdep
    have c1' := cell_old hC c1
    have c2' := cell_old hC c2
    have c3' := cell_old hC c3
    have hi7 : i = 0 ∨ i = 1 ∨ i = 2 ∨ i = 3 ∨ i = 4 ∨ i = 5 ∨ i = 6 ∨ i = 7 ∨ i = 8 ∨ i = 9 ∨ i = 10 ∨ i = 11 ∨ i = 12 ∨ i = 13 ∨ i = 14 ∨ i = 15 ∨ i = 16 ∨ i = 17 := by omega
    rcases hi7 with rfl | rfl | rfl | rfl | rfl | rfl | rfl | rfl | rfl | rfl | rfl | rfl | rfl | rfl | rfl | rfl | rfl | rfl
    all_goals (simp only [List.getElem?_cons_zero, List.getElem?_cons_succ, Option.some.injEq] at ho; subst ho)
    · refine step_plain rfl ?_
      have x0 : fu.tmps[0]?.getD undef = .pointer (some ⟨g, 0, none⟩) := ev_tmp (hold 0 (by show _ < 43; omega) (by kernel_rfl))
      go_simp
      exact ⟨rfl, Tch.refl _ _⟩
    · refine step_plain rfl ?_
      have x5 : fu.tmps[5]?.getD undef = .pointer (some ⟨g, 0, none⟩) := ev_tmp (hdep 0 5 (by show _ < 43; omega) (by kernel_rfl) (by kernel_rfl))
      go_simp
      exact ⟨rfl, Tch.refl _ _⟩
    · refine step_plain rfl ?_
      have x6 : fu.tmps[6]?.getD undef = .pointer (some ⟨g, 0, none⟩) := ev_tmp (hdep 1 6 (by show _ < 43; omega) (by kernel_rfl) (by kernel_rfl))
      go_simp
      exact ⟨rfl, Tch.refl _ _⟩
    · refine step_plain rfl ?_
      have x7 : fu.tmps[7]?.getD undef = .pointer (some ⟨g, 3, none⟩) := ev_tmp (hdep 2 7 (by show _ < 43; omega) (by kernel_rfl) (by kernel_rfl))
      go_simp
      exact ⟨rfl, Tch.refl _ _⟩
    · refine step_plain rfl ?_
      have x0 : fu.tmps[0]?.getD undef = .pointer (some ⟨g, 0, none⟩) := ev_tmp (hold 0 (by show _ < 43; omega) (by kernel_rfl))
      go_simp
      exact ⟨rfl, Tch.refl _ _⟩
    · refine step_plain rfl ?_
      have x9 : fu.tmps[9]?.getD undef = .pointer (some ⟨g, 0, none⟩) := ev_tmp (hdep 4 9 (by show _ < 43; omega) (by kernel_rfl) (by kernel_rfl))
      go_simp
      exact ⟨rfl, Tch.refl _ _⟩
    · refine step_plain rfl ?_
      have x10 : fu.tmps[10]?.getD undef = .pointer (some ⟨g, 0, none⟩) := ev_tmp (hdep 5 10 (by show _ < 43; omega) (by kernel_rfl) (by kernel_rfl))
      go_simp
      exact ⟨rfl, Tch.refl _ _⟩
    · refine step_plain rfl ?_
      have x11 : fu.tmps[11]?.getD undef = .pointer (some ⟨g, 1, none⟩) := ev_tmp (hdep 6 11 (by show _ < 43; omega) (by kernel_rfl) (by kernel_rfl))
      go_simp
      exact ⟨rfl, Tch.refl _ _⟩
    · refine step_plain rfl ?_
      have x12 : fu.tmps[12]?.getD undef = .int .i64 S.log := ev_tmp (hdep 7 12 (by show _ < 43; omega) (by kernel_rfl) (by kernel_rfl))
      go_simp
      exact ⟨rfl, Tch.refl _ _⟩
    · refine step_plain rfl ?_
      have x0 : fu.tmps[0]?.getD undef = .pointer (some ⟨g, 0, none⟩) := ev_tmp (hold 0 (by show _ < 43; omega) (by kernel_rfl))
      go_simp
      exact ⟨rfl, Tch.refl _ _⟩
    · refine step_plain rfl ?_
      have x14 : fu.tmps[14]?.getD undef = .pointer (some ⟨g, 0, none⟩) := ev_tmp (hdep 9 14 (by show _ < 43; omega) (by kernel_rfl) (by kernel_rfl))
      go_simp
      exact ⟨rfl, Tch.refl _ _⟩
    · refine step_plain rfl ?_
      have x15 : fu.tmps[15]?.getD undef = .pointer (some ⟨g, 0, none⟩) := ev_tmp (hdep 10 15 (by show _ < 43; omega) (by kernel_rfl) (by kernel_rfl))
      go_simp
      exact ⟨rfl, Tch.refl _ _⟩
    · refine step_plain rfl ?_
      have x16 : fu.tmps[16]?.getD undef = .pointer (some ⟨g, 2, none⟩) := ev_tmp (hdep 11 16 (by show _ < 43; omega) (by kernel_rfl) (by kernel_rfl))
      go_simp
      exact ⟨rfl, Tch.refl _ _⟩
    · refine step_plain rfl ?_
      have x17 : fu.tmps[17]?.getD undef = .int .i64 S.pages := ev_tmp (hdep 12 17 (by show _ < 43; omega) (by kernel_rfl) (by kernel_rfl))
      go_simp
      exact ⟨rfl, Tch.refl _ _⟩
    · refine step_plain rfl ?_
      have x13 : fu.tmps[13]?.getD undef = .int .u32 S.log := ev_tmp (hdep 8 13 (by show _ < 43; omega) (by kernel_rfl) (by kernel_rfl))
      have x18 : fu.tmps[18]?.getD undef = .int .u32 S.pages := ev_tmp (hdep 13 18 (by show _ < 43; omega) (by kernel_rfl) (by kernel_rfl))
      go_simp
      exact ⟨⟨_, rfl, nums_two _ _ _⟩, hC.alloc _, (Tch.refl _ _).alloc _⟩
    · refine step_plain rfl ?_
      have x19 := hdep 14 19 (by show _ < 43; omega) (by kernel_rfl) (by kernel_rfl)
      obtain ⟨k, e19, h19⟩ := x19
      have x19 := ev_tmp e19
      have HN := Lib.hid (numbers_any (cap := 2) h19 (by simp) (by simp; omega))
      clear h19
      go_simp
      refine HN.out.mono ?_
      rintro e w5 ⟨rfl, q2⟩
      exact ⟨_, rfl, rfl, hC.trans q2, q2⟩
    · refine step_plain rfl ?_
      have x20 : fu.tmps[20]?.getD undef = .agg (secA (numsPage [S.log, S.pages])) := ev_tmp (hdep 15 20 (by show _ < 43; omega) (by kernel_rfl) (by kernel_rfl))
      have x8 : fu.tmps[8]?.getD undef = .int .u64 S.gen := ev_tmp (hdep 3 8 (by show _ < 43; omega) (by kernel_rfl) (by kernel_rfl))
      exact stpR_ok (exec_build_fr FILL.out (by simp [Act.eval, x8, x20])) ⟨rfl, hC, Tch.refl _ _⟩
    · refine step_plain rfl ?_
      exact stpR_ok (exec_alloc_frame frameTT) ⟨⟨_, rfl, hC.size, heap_alloc_new _ _⟩, hC.alloc _, (Tch.refl _ _).alloc _⟩
  · intro vs w2 hC hK
    have h16 : vs 16 = .agg (frameA S.headF) := hK 16 (by omega)
    obtain ⟨F, h17, hF, hb⟩ := hK 17 (by omega)
    have H16 := Lib.hid h16
    have H17 := Lib.hid h17
    have H2 := Lib.hid (H.out.touch hC (by simp) (by simp) (by simp) (by simp))
    have T2 := Lib.hid hC
    have B2 := Lib.hid hb
    clear hK hC h16 h17 hb c1 c2 c3
    unfold fullOf
    rw [show (List.range 18).map vs = [vs 0, vs 1, vs 2, vs 3, vs 4, vs 5, vs 6, vs 7, vs 8, vs 9, vs 10, vs 11, vs 12, vs 13, vs 14, vs 15, vs 16, vs 17] from rfl, H16.out, H17.out]
    generalize vs 0 = v0
    generalize vs 1 = v1
    generalize vs 2 = v2
    generalize vs 3 = v3
    generalize vs 4 = v4
    generalize vs 5 = v5
    generalize vs 6 = v6
    generalize vs 7 = v7
    generalize vs 8 = v8
    generalize vs 9 = v9
    generalize vs 10 = v10
    generalize vs 11 = v11
    generalize vs 12 = v12
    generalize vs 13 = v13
    generalize vs 14 = v14
    generalize vs 15 = v15
    clear H16 H17 vs
    simp only [List.take_succ_cons, List.take_zero, List.drop_succ_cons, List.drop_zero, putAll]
    go_frame
    go_upto_region 2 with ((with_reducible apply wc_store_frame frameTT B2.out (g := S.headF)); exact rfl; exact rfl; go_frame)
    have ht3 : Tch [F] w2 (w2.setRow F (frameA S.headF)) := (Tch.refl _ _).setRow (.inl (by simp)) _
    have hgF : g ≠ F := by have := lt_of_heap H.out.hg; omega
    have hdF : d ≠ F := by have := lt_of_heap H.out.hD.hd; omega
    have hLF : L ≠ F := by have := lt_of_heap H.out.hD.hL; omega
    have hMF : M ≠ F := by have := H.out.hD.hM.lt; omega
    have H3 := Lib.hid (H2.out.touch ht3 (by simpa using hgF) (by simpa using hdF) (by simpa using hLF) (by simpa using hMF))
    have B3 := Lib.hid (setRow_heap w2 F _ (frameA S.headF) _ _ B2.out)
    have T3 := Lib.hid (tch_own T2.out ht3 (by simpa using hF))
    clear ht3 hgF hdF hLF hMF H2 B2 T2
    generalize w2.setRow F (frameA S.headF) = w3 at *
    have C0 : Hid (∀ w', Tch [] w3 w' → w'.cell? ⟨g, 0, none⟩ = some (.pointer (some ⟨d, 0, none⟩))) := fun w' h => cell_old h (H3.out.cell 0 rfl)
    have C3 : Hid (∀ w', Tch [] w3 w' → w'.cell? ⟨g, 3, none⟩ = some (.int .u64 S.gen)) := fun w' h => cell_old h (H3.out.cell 3 rfl)
    have CB : Hid (∀ w', Tch [] w3 w' → w'.heap[F]? = some (.cells (frameA S.headF) 155)) := fun w' h => h.heap B3.out (by simp)
    have CS : Hid (∀ w', Tch [] w3 w' → Calls Tryz.prog 115 #[.agg (frameA S.headF)] w' fun e w'' => e = .returned (.agg (secA S.headF.sector)) ∧ Tch [] w3 w'') := fun w' h => (sector_any S.headF OK.out w').mono (by rintro e w'' ⟨h1, h2⟩; exact ⟨h1, h.trans h2⟩)
    obtain ⟨gm, hgm⟩ : ∃ gm, S.gen % 2 = gm := ⟨_, rfl⟩
    have hgm2 : gm < 2 := by omega
    have e1 : (S.gen : Int).tmod 2 = gm := by rw [Int.tmod_eq_emod_of_nonneg (by omega)]; omega
    have HGM := Lib.hid hgm
    clear hgm
    refine wp_region_walk (C := fun w' => Tch [] w3 w') 12 (by kernel_rfl) (by kernel_rfl) ((Tch.refl _ _).drew) ?_
    simp only [List.take_succ_cons, List.take_zero, List.drop_succ_cons, List.drop_zero]
    (repeat (first
        | ((with_reducible refine wq_load_cell (by kernel_rfl) C0.out ?_ ?_ ?_); exact rfl; exact rfl; go_frame)
        | ((with_reducible refine wq_load_cell (by kernel_rfl) C3.out ?_ ?_ ?_); exact rfl; exact rfl; go_frame)
        | ((with_reducible refine wq_load_frame frameTT CB.out ?_ ?_ ?_); exact rfl; exact rfl; go_frame)
        | ((with_reducible refine wq_fn cf_sector2 ?_ ?_ CS.out ?_); exact rfl; exact rfl; go_frame)
        | go_big_quiet_skip | (go_big_quiet_want; go_big_quiet_op; first | go_big_quiet_on | (refine ⟨_, fun _ _ => rfl, ?_⟩; go_big_quiet_on))))
    refine wpQuiet_nil ?_
    intro w4 ht4
    have H4 := Lib.hid (H3.out.touch ht4 (by simp) (by simp) (by simp) (by simp))
    have T4 := Lib.hid (T3.out.trans ht4)
    clear ht4 C0 C3 CB CS H3 T3 B3
    have hE : S.disk.acts S.headAs = if (S.disk.write (gm : Int) S.headF.sector).1 = 0 then (S.disk.write (gm : Int) S.headF.sector).2.flush else S.disk.write (gm : Int) S.headF.sector := by
      unfold LogS.headAs
      rw [DiskS.acts_cons, DiskS.acts_one, HGM.out]
      rfl
    have HE := Lib.hid hE
    clear hE
    by_cases hz : (S.disk.write (gm : Int) S.headF.sector).1 = 0
    · have hz' : ((S.disk.write (gm : Int) S.headF.sector).1 != 0) = false := by simp [hz]
      rw [if_pos hz] at HE
      go_wp2_with (first | (go_at_call 66; refine (write_any H4.out.hD _ _).mono ?_; rintro e w' ⟨rfl, hq1, hq2⟩; have H5 := Lib.hid (H4.out.disk hq1 hq2); have c0 := (H4.out.disk hq1 hq2).cell 0 rfl; have T5 := Lib.hid ((T4.out.mono (by simp)).trans hq2); clear hq1 hq2 H4) | (go_at_call 67; refine (flush_any H5.out.hD).mono ?_; rintro e w' ⟨rfl, hq1, hq2⟩; have H6 := Lib.hid (H5.out.disk hq1 hq2); have T6 := Lib.hid (T5.out.trans hq2); clear hq1 hq2 H5))
      go_ret
      rw [HE.out]
      exact ⟨rfl, H6.out, T6.out⟩
    · have hz' : ((S.disk.write (gm : Int) S.headF.sector).1 != 0) = true := by simp [hz]
      rw [if_neg hz] at HE
      go_wp2_with (first | (go_at_call 66; refine (write_any H4.out.hD _ _).mono ?_; rintro e w' ⟨rfl, hq1, hq2⟩; have H5 := Lib.hid (H4.out.disk hq1 hq2); have T5 := Lib.hid ((T4.out.mono (by simp)).trans hq2); clear hq1 hq2 H4))
      go_ret
      rw [HE.out]
      exact ⟨rfl, H5.out, T5.out⟩
theorem home_any {w : World} {g d L M V : Nat} {S : LogS} (h : LogAt w g d L M V S) (p : Nat) (x : Page) (hl : S.log ≤ 4000) (hp : p < 16384) (hg : S.gen < 18446744073709551616) :
    Calls Tryz.prog 69 #[.pointer (some ⟨g, 0, none⟩), .int .i64 p, .agg (secA x)] w fun e w' =>
      e = .returned (.int .i64 (S.disk.act (S.homeA p x)).1) ∧ LogAt w' g d L M V { S with disk := (S.disk.act (S.homeA p x)).2 } ∧ Tch [d, L, M] w w' :=
  (home_f h.f p x hl hp hg).mono (by rintro e w' ⟨h1, h2, h3⟩; exact ⟨h1, h.disk h2.hD h3, h3⟩)
theorem head_any {w : World} {g d L M V : Nat} {S : LogS} (h : LogAt w g d L M V S) (hl : S.log ≤ 4000) (hp : S.pages ≤ 16384) (hg : S.gen < 18446744073709551616) :
    Calls Tryz.prog 70 #[.pointer (some ⟨g, 0, none⟩)] w fun e w' =>
      e = .returned (.int .i64 (S.disk.acts S.headAs).1) ∧ LogAt w' g d L M V { S with disk := (S.disk.acts S.headAs).2 } ∧ Tch [d, L, M] w w' :=
  (head_f h.f hl hp hg).mono (by rintro e w' ⟨h1, h2, h3⟩; exact ⟨h1, h.disk h2.hD h3, h3⟩)
end Go.Proofs.YtkjgbhpnlgcinaaGreatDoor
/-
  One behind the other, till one fails: package wal's steps.
-/
namespace Go.Cib
open Go Go.RowKit
section
variable {P : Program} {ops : Array Oper} {rest : List Oper} {a : Act} {w : World} {Q : Exit → Act → World → Prop} {dst : Option Tmp} {ty : TypeId} {pos : String} {af : Array Edge} {x y : Operand}
/-- A call by its contract. -/
theorem wc_enter {o : Oper} (hgd : o.guard = none) {f : FuncId} {args : Array Value} (hrun : (execOp a.eval o).run P w = .ok (.enter f args) w) (h : Calls P f args w (fun e w' => ∃ v, e = .returned v ∧ wpList P ops Q rest (a.put o.dst v) w')) : wpList P ops Q (o :: rest) a w :=
  wpList_plain hgd fun K hK => by
    unfold Oper.wp
    rw [hrun, Oper.upon_enter]
    refine Calls.mono h ?_
    rintro e w' ⟨v, rfl, h'⟩
    exact hK _ _ h'
end
section
variable {σ : Type}
def runS (s : σ) : List (σ → Int × σ) → Int × σ
  | [] => (0, s)
  | f :: fs => if (f s).1 = 0 then runS (f s).2 fs else f s
/-- A function value that, called where R holds of s, hands back what f says, and R goes on. -/
def StepV (P : Program) (R : σ → World → Prop) (v : Value) (f : σ → Int × σ) : Prop :=
  ∃ (fid : FuncId) (first cap : Array Value), v = .func (.func fid) first cap ∧ (∀ (args : Array Value) (w : World), (callFunc fid args).run P w = .ok (.enter fid args) w) ∧
    ∀ s w, R s w → Calls P fid (first ++ cap) w (fun e w' => e = .returned (.int .i64 (f s).1) ∧ R (f s).2 w')
/-- The same, and what holds behind a step that failed is R'. -/
def StepE (P : Program) (R R' : σ → World → Prop) (v : Value) (f : σ → Int × σ) : Prop :=
  ∃ (fid : FuncId) (first cap : Array Value), v = .func (.func fid) first cap ∧ (∀ (args : Array Value) (w : World), (callFunc fid args).run P w = .ok (.enter fid args) w) ∧
    ∀ s w, R s w → Calls P fid (first ++ cap) w (fun e w' => e = .returned (.int .i64 (f s).1) ∧ ((f s).1 = 0 → R (f s).2 w') ∧ R' (f s).2 w')
theorem StepV.e {P : Program} {R : σ → World → Prop} {v : Value} {f : σ → Int × σ} (h : StepV P R v f) : StepE P R R v f := by
  obtain ⟨fid, first, cap, h1, h2, h3⟩ := h
  exact ⟨fid, first, cap, h1, h2, fun s w hr => (h3 s w hr).mono (by rintro e w' ⟨q1, q2⟩; exact ⟨q1, fun _ => q2, q2⟩)⟩
end
end Go.Cib
namespace Go.Proofs.YtkjgbhpnlgcinaaGreatDoor
open Go.RowKit Go.Cib
set_option maxRecDepth 20000 in
set_option maxHeartbeats 400000 in
theorem steps_end {σ : Type} {R R' : σ → World → Prop} {fs : List (Value × (σ → Int × σ))} (hS : ∀ q ∈ fs, StepE Tryz.prog R R' q.1 q.2) (hRR : ∀ s w, R s w → R' s w) {a : Option Addr} {cap : Nat} (hR : ∀ s w, R s w → ValsAt w a (fs.map (·.1))) {s : σ} {w : World} (h : R s w) (hl : fs.length ≤ 100000) :
    Calls Tryz.prog 64 #[.slice a fs.length cap] w fun e w' => e = .returned (.int .i64 (runS s (fs.map (·.2))).1) ∧ R' (runS s (fs.map (·.2))).2 w' := by
  obtain ⟨m, hm⟩ : ∃ m, fs.length = m := ⟨_, rfl⟩
  rw [hm] at hl ⊢
  have HM := Lib.hid hm
  have HH := Lib.hid h
  have HR := Lib.hid hR
  have HS := Lib.hid hS
  clear hm h hR hS
  go_enter Tryz.func64, Tryz.ntmps64
  go_wp2_with fail
  go_loopg [8] m (fun q i wr => ∃ j s', OnAt m i q j ∧ R s' wr ∧ runS s (fs.map (·.2)) = runS s' ((fs.drop j).map (·.2)))
  case atStart => exact ⟨0, s, ⟨Nat.zero_le _, rfl, rfl⟩, HH.out, rfl⟩
  case round =>
    obtain ⟨j, s', ⟨hj, rfl, rfl⟩, hRr, he⟩ := hrel
    have HRR := Lib.hid hRr
    clear hRr
    by_cases hjm : j < m
    · have hjl : j < fs.length := by have := HM.out; omega
      obtain ⟨q, hq⟩ : ∃ q, fs[j]? = some q := ⟨_, List.getElem?_eq_getElem hjl⟩
      have hd : fs.drop j = q :: fs.drop (j + 1) := by
        rw [List.drop_eq_getElem_cons hjl]
        congr 1
        exact Option.some.inj ((List.getElem?_eq_getElem hjl).symm.trans hq)
      obtain ⟨fid, first, fcap, hv, hcf, hrun⟩ := HS.out q (List.mem_of_getElem? hq)
      obtain ⟨b, o, rfl, hc⟩ := HR.out s' wr HRR.out j q.1 (by rw [List.getElem?_map, hq]; rfl)
      rw [hv] at hc
      rw [hd, List.map_cons, runS] at he
      have HE := Lib.hid he
      have CF := Lib.hid hcf
      have RUN := Lib.hid (hrun s' wr HRR.out)
      clear he hcf hrun hd hq hv
      by_cases hz : (q.2 s').1 = 0
      · rw [if_pos hz] at HE
        have hz' : ((q.2 s').1 != 0) = false := by simp [hz]
        go_wp2_with (rw [CF.out, Oper.upon_enter]; refine RUN.out.mono ?_; rintro e w5 ⟨rfl, q1, _⟩; have R5 := Lib.hid (q1 hz); clear q1)
        go_roundg (m - (j + 1))
        case measure => omega
        case rel => exact ⟨j + 1, _, ⟨by omega, by go_num, rfl⟩, R5.out, HE.out⟩
      · rw [if_neg hz] at HE
        have hz' : ((q.2 s').1 != 0) = true := by simp [hz]
        go_wp2_with (rw [CF.out, Oper.upon_enter]; refine RUN.out.mono ?_; rintro e w5 ⟨rfl, _, q1⟩; have R5 := Lib.hid q1; clear q1)
        go_ret
        rw [HE.out]
        exact ⟨rfl, R5.out⟩
    · have hd : fs.drop j = [] := List.drop_of_length_le (by have := HM.out; omega)
      rw [hd] at he
      have HE := Lib.hid he
      clear he hd
      go_wp2_with fail
      go_ret
      rw [HE.out]
      exact ⟨rfl, hRR _ _ HRR.out⟩
theorem steps_any {σ : Type} {R : σ → World → Prop} {fs : List (Value × (σ → Int × σ))} (hS : ∀ q ∈ fs, StepV Tryz.prog R q.1 q.2) {a : Option Addr} {cap : Nat} (hR : ∀ s w, R s w → ValsAt w a (fs.map (·.1))) {s : σ} {w : World} (h : R s w) (hl : fs.length ≤ 100000) :
    Calls Tryz.prog 64 #[.slice a fs.length cap] w fun e w' => e = .returned (.int .i64 (runS s (fs.map (·.2))).1) ∧ R (runS s (fs.map (·.2))).2 w' :=
  steps_end (fun q hq => (hS q hq).e) (fun _ _ h => h) hR h hl
end Go.Proofs.YtkjgbhpnlgcinaaGreatDoor
/-
  An empty log is laid: package wal's Format.
-/
namespace Go.Cib
open Go Go.RowKit
theorem DiskS.acts_drop {D : DiskS} {xs ys : List DAct} {j : Nat} {x : DAct} (hx : xs[j]? = some x) : D.acts (xs.drop j ++ ys) = if (D.act x).1 = 0 then (D.act x).2.acts (xs.drop (j + 1) ++ ys) else D.act x := by
  obtain ⟨hj, e⟩ := List.getElem?_eq_some_iff.1 hx
  rw [List.drop_eq_getElem_cons hj, e, List.cons_append, DiskS.acts_cons]
end Go.Cib
namespace Go.Proofs.YtkjgbhpnlgcinaaGreatDoor
open Go.RowKit Go.Cib
/-- What the steps of Format find: the boxes of the disk's pointer, of the log's length, of the log's pointer. -/
structure FmtAt (w : World) (g d L M Bd Bn Bl : Nat) (S : LogS) : Prop where
  lg : LogF w g d L M none S
  cd : w.cell? ⟨Bd, 0, none⟩ = some (.pointer (some ⟨d, 0, none⟩))
  cn : w.cell? ⟨Bn, 0, none⟩ = some (.int .i64 S.log)
  cl : w.cell? ⟨Bl, 0, none⟩ = some (.pointer (some ⟨g, 0, none⟩))
  nd : Bd ∉ [d, L, M]
  nn : Bn ∉ [d, L, M]
  nl : Bl ∉ [d, L, M]
theorem cell_touch {w w' : World} {X : List Nat} (h : Tch X w w') {b o : Nat} {v : Value} (hc : w.cell? ⟨b, o, none⟩ = some v) (hb : b ∉ X) : w'.cell? ⟨b, o, none⟩ = some v := by
  rw [World.cell?_of_block (w := w) (h.block _ (block_lt_of_cell hc) hb)]; exact hc
theorem FmtAt.disk {w w' : World} {g d L M Bd Bn Bl : Nat} {S : LogS} {D : DiskS} (h : FmtAt w g d L M Bd Bn Bl S) (hD : DiskAt w' d L M D) (ht : Tch [d, L, M] w w') : FmtAt w' g d L M Bd Bn Bl { S with disk := D } :=
  ⟨h.lg.disk hD ht, cell_touch ht h.cd h.nd, cell_touch ht h.cn h.nn, cell_touch ht h.cl h.nl, h.nd, h.nn, h.nl⟩

set_option maxRecDepth 20000 in
set_option maxHeartbeats 400000 in
theorem fmt1_any {w : World} {g d L M Bd Bn Bl : Nat} {S : LogS} (h : FmtAt w g d L M Bd Bn Bl S) (hl : S.log ≤ 4000) :
    Calls Tryz.prog 65 #[.pointer (some ⟨Bn, 0, none⟩), .pointer (some ⟨Bd, 0, none⟩)] w fun e w' =>
      e = .returned (.int .i64 (S.disk.acts (LogS.fmtA S.log)).1) ∧ FmtAt w' g d L M Bd Bn Bl { S with disk := (S.disk.acts (LogS.fmtA S.log)).2 } ∧ Tch [d, L, M] w w' := by
  have cn := h.cn
  have H := Lib.hid h
  have W1 : wrap64 (S.log + 2) = S.log + 2 := by unfold wrap64; omega
  obtain ⟨m, hm⟩ : ∃ m, S.log + 2 = m := ⟨_, rfl⟩
  have W2 : (S.log : Int) + 2 = m := by omega
  have HM := Lib.hid hm
  have hml : m ≤ 4002 := by omega
  clear h hm
  go_enter Tryz.func65, Tryz.ntmps65
  go_wp2_with fail
  obtain ⟨xs, hxs⟩ : ∃ xs, (List.range m).map (fun (i : Nat) => DAct.write (i : Int) Arr.zero) = xs := ⟨_, rfl⟩
  have HX := Lib.hid hxs
  clear hxs cn
  go_loopg [7] m (fun q i wr => ∃ j D, OnAt m i q j ∧ FmtAt wr g d L M Bd Bn Bl { S with disk := D } ∧ Tch [d, L, M] w wr ∧ S.disk.acts (xs ++ [.flush]) = D.acts (xs.drop j ++ [.flush]))
  case atStart => exact ⟨0, S.disk, ⟨Nat.zero_le _, rfl, rfl⟩, H.out, Tch.refl _ _, rfl⟩
  case round =>
    obtain ⟨j, D, ⟨hj, rfl, rfl⟩, hF, hT, he⟩ := hrel
    have cd := hF.cd
    have F0 := Lib.hid hF
    have T0 := Lib.hid hT
    clear hF hT
    by_cases hjm : j < m
    · have hx : xs[j]? = some (.write (j : Int) Arr.zero) := by rw [← HX.out]; simp [hjm]
      rw [DiskS.acts_drop hx] at he
      change _ = (if (D.write j Arr.zero).1 = 0 then (D.write j Arr.zero).2.acts _ else D.write j Arr.zero) at he
      have HE := Lib.hid he
      clear he hx
      by_cases hz : (D.write j Arr.zero).1 = 0
      · have hz' : ((D.write j Arr.zero).1 != 0) = false := by simp [hz]
        rw [if_pos hz] at HE
        go_wp2_with (first | ((with_reducible apply wc_build_arr secT); exact rfl; go_frame) | (go_at_call 66; refine (write_any F0.out.lg.hD _ _).mono ?_; rintro e w' ⟨rfl, hq1, hq2⟩; have F1 := Lib.hid (F0.out.disk hq1 hq2); have T1 := Lib.hid (T0.out.trans hq2); clear hq1 hq2 F0 T0))
        go_roundg (m - (j + 1))
        case measure => omega
        case rel => exact ⟨j + 1, _, ⟨by omega, by go_num, rfl⟩, F1.out, T1.out, HE.out⟩
      · have hz' : ((D.write j Arr.zero).1 != 0) = true := by simp [hz]
        rw [if_neg hz] at HE
        go_wp2_with (first | ((with_reducible apply wc_build_arr secT); exact rfl; go_frame) | (go_at_call 66; refine (write_any F0.out.lg.hD _ _).mono ?_; rintro e w' ⟨rfl, hq1, hq2⟩; have F1 := Lib.hid (F0.out.disk hq1 hq2); have T1 := Lib.hid (T0.out.trans hq2); clear hq1 hq2 F0 T0))
        go_ret
        have e0 : LogS.fmtA S.log = xs ++ [.flush] := by unfold LogS.fmtA; rw [HM.out, HX.out]
        rw [e0, HE.out]
        exact ⟨rfl, F1.out, T1.out⟩
    · have hd : xs.drop j = [] := List.drop_of_length_le (by rw [← HX.out]; simp; omega)
      rw [hd, List.nil_append, DiskS.acts_one] at he
      have HE := Lib.hid he
      clear he hd
      go_wp2_with (go_at_call 67; refine (flush_any F0.out.lg.hD).mono ?_; rintro e w' ⟨rfl, hq1, hq2⟩; have F1 := Lib.hid (F0.out.disk hq1 hq2); have T1 := Lib.hid (T0.out.trans hq2); clear hq1 hq2 F0 T0)
      go_ret
      have e0 : LogS.fmtA S.log = xs ++ [.flush] := by unfold LogS.fmtA; rw [HM.out, HX.out]
      rw [e0, HE.out]
      exact ⟨rfl, F1.out, T1.out⟩

set_option maxRecDepth 20000 in
set_option maxHeartbeats 400000 in
theorem fmt2_any {w : World} {g d L M Bd Bn Bl : Nat} {S : LogS} (h : FmtAt w g d L M Bd Bn Bl S) (hl : S.log ≤ 4000) (hp : S.pages ≤ 16384) (hg : S.gen < 18446744073709551616) :
    Calls Tryz.prog 68 #[.pointer (some ⟨Bl, 0, none⟩), .pointer (some ⟨Bd, 0, none⟩)] w fun e w' =>
      e = .returned (.int .i64 (S.disk.acts S.fmtB).1) ∧ FmtAt w' g d L M Bd Bn Bl { S with disk := (S.disk.acts S.fmtB).2 } ∧ Tch [d, L, M] w w' := by
  have cl := h.cl
  have c2 := h.lg.cell 2 rfl
  have H := Lib.hid h
  obtain ⟨m, hm⟩ : ∃ m, S.pages = m := ⟨_, rfl⟩
  rw [hm] at c2 hp
  have HM := Lib.hid hm
  clear h hm
  go_enter Tryz.func68, Tryz.ntmps68
  go_wp2_with fail
  obtain ⟨xs, hxs⟩ : ∃ xs, (List.range m).map (fun (p : Nat) => S.homeA p Arr.zero) = xs := ⟨_, rfl⟩
  have HX := Lib.hid hxs
  clear hxs cl c2
  go_loopg [9] m (fun q i wr => ∃ j D, OnAt m i q j ∧ FmtAt wr g d L M Bd Bn Bl { S with disk := D } ∧ Tch [d, L, M] w wr ∧ S.disk.acts (xs ++ [.flush]) = D.acts (xs.drop j ++ [.flush]))
  case atStart => exact ⟨0, S.disk, ⟨Nat.zero_le _, rfl, rfl⟩, H.out, Tch.refl _ _, rfl⟩
  case round =>
    obtain ⟨j, D, ⟨hj, rfl, rfl⟩, hF, hT, he⟩ := hrel
    have cd := hF.cd
    have cl := hF.cl
    have F0 := Lib.hid hF
    have T0 := Lib.hid hT
    clear hF hT
    by_cases hjm : j < m
    · have hx : xs[j]? = some (S.homeA j Arr.zero) := by rw [← HX.out]; simp [hjm]
      rw [DiskS.acts_drop hx] at he
      have HE := Lib.hid he
      clear he hx
      have CH : Hid (Calls Tryz.prog 69 #[.pointer (some ⟨g, 0, none⟩), .int .i64 j, .agg (secA (Arr.zero : Page))] wr fun e w' =>
          e = .returned (.int .i64 (D.act (S.homeA j Arr.zero)).1) ∧ LogF w' g d L M none { S with disk := (D.act (S.homeA j Arr.zero)).2 } ∧ Tch [d, L, M] wr w') := home_f F0.out.lg j Arr.zero hl (by omega) hg
      by_cases hz : (D.act (S.homeA j Arr.zero)).1 = 0
      · have hz' : ((D.act (S.homeA j Arr.zero)).1 != 0) = false := by simp [hz]
        rw [if_pos hz] at HE
        go_wp2_with (first | ((with_reducible apply wc_build_arr pageT); exact rfl; go_frame) | (go_at_call 69; refine CH.out.mono ?_; rintro e w' ⟨rfl, hq1, hq2⟩; have F1 := Lib.hid (F0.out.disk hq1.hD hq2); have T1 := Lib.hid (T0.out.trans hq2); clear hq1 hq2 F0 T0))
        go_roundg (m - (j + 1))
        case measure => omega
        case rel => exact ⟨j + 1, _, ⟨by omega, by go_num, rfl⟩, F1.out, T1.out, HE.out⟩
      · have hz' : ((D.act (S.homeA j Arr.zero)).1 != 0) = true := by simp [hz]
        rw [if_neg hz] at HE
        go_wp2_with (first | ((with_reducible apply wc_build_arr pageT); exact rfl; go_frame) | (go_at_call 69; refine CH.out.mono ?_; rintro e w' ⟨rfl, hq1, hq2⟩; have F1 := Lib.hid (F0.out.disk hq1.hD hq2); have T1 := Lib.hid (T0.out.trans hq2); clear hq1 hq2 F0 T0))
        go_ret
        have e0 : S.fmtB = xs ++ [.flush] := by unfold LogS.fmtB; rw [HM.out, HX.out]
        rw [e0, HE.out]
        exact ⟨rfl, F1.out, T1.out⟩
    · have hd : xs.drop j = [] := List.drop_of_length_le (by rw [← HX.out]; simp; omega)
      rw [hd, List.nil_append, DiskS.acts_one] at he
      have HE := Lib.hid he
      clear he hd
      go_wp2_with (go_at_call 67; refine (flush_any F0.out.lg.hD).mono ?_; rintro e w' ⟨rfl, hq1, hq2⟩; have F1 := Lib.hid (F0.out.disk hq1 hq2); have T1 := Lib.hid (T0.out.trans hq2); clear hq1 hq2 F0 T0)
      go_ret
      have e0 : S.fmtB = xs ++ [.flush] := by unfold LogS.fmtB; rw [HM.out, HX.out]
      rw [e0, HE.out]
      exact ⟨rfl, F1.out, T1.out⟩
end Go.Proofs.YtkjgbhpnlgcinaaGreatDoor
/-
  An empty log is laid: package wal's Format.
-/
namespace Go.Proofs.YtkjgbhpnlgcinaaGreatDoor
open Go.RowKit Go.Cib
theorem run_build_log (x : Option Addr) (a b : Int) (w : World) : (Instr.build 120 #[(0, .pointer x), (1, .int .i64 a), (2, .int .i64 b), (3, .int .u64 1)]).run Tryz.prog w = .ok (.agg #[.pointer x, .int .i64 a, .int .i64 b, .int .u64 1, .int .i64 0, .int .u64 0, .map none, .bool false]) w := by kernel_rfl
theorem exec_build_log {a : Act} {w : World} {dst : Option Tmp} {ty : TypeId} {pos : String} {af : Array Edge} {gd : Option (Nat × Bool)} {i j k : Nat} {x : Option Addr} {m n : Int} (hx : a.tmps[i]?.getD undef = .pointer x) (hm : a.tmps[j]?.getD undef = .int .i64 m) (hn : a.tmps[k]?.getD undef = .int .i64 n) :
    (execOp a.eval ⟨dst, .build 120 #[(0, .tmp i), (1, .tmp j), (2, .tmp k), (3, .const (.int .u64 1))], ty, pos, af, gd⟩).run Tryz.prog w = .ok (.value (.agg #[.pointer x, .int .i64 m, .int .i64 n, .int .u64 1, .int .i64 0, .int .u64 0, .map none, .bool false])) w := by
  have h := run_build_log x m n w
  unfold execOp
  simp [Act.eval, hx, hm, hn, h]
set_option maxRecDepth 20000 in
theorem cf_size (args : Array Value) (w : World) : (callFunc 63 args).run Tryz.prog w = .ok (.enter 63 args) w := rfl
def KFmt (w0 : World) (d len log : Nat) : Nat → Value → World → Prop
  | 0, v, _ => v = .pointer (some ⟨d, 0, none⟩)
  | 1, v, _ => v = .int .i64 log
  | 2, v, _ => v = .pointer (some ⟨d, 0, none⟩)
  | 3, v, _ => v = .int .i64 len
  | 4, v, _ => v = .int .i64 (len - 2)
  | 5, v, _ => v = .int .i64 log
  | 6, v, _ => v = .int .i64 (len - 2 - log)
  | 7, v, _ => v = .agg #[.pointer (some ⟨d, 0, none⟩), .int .i64 log, .int .i64 (len - 2 - log), .int .u64 1, .int .i64 0, .int .u64 0, .map none, .bool false]
  | 8, v, w => ∃ G, v = .pointer (some ⟨G, 0, none⟩) ∧ w0.heap.size ≤ G ∧ w.heap[G]? = some (.cells #[.pointer (some ⟨d, 0, none⟩), .int .i64 log, .int .i64 (len - 2 - log), .int .u64 1, .int .i64 0, .int .u64 0, .map none, .bool false] 120)
  | _, v, w => ∃ G, v = .pointer (some ⟨G, 0, none⟩) ∧ w0.heap.size ≤ G ∧ w.heap[G]? = some (.cells #[.pointer none] 73)
theorem KFmt.later {w0 : World} {d len log : Nat} {j : Nat} {v : Value} {w w' : World} (h : KFmt w0 d len log j v w) (ht : Tch [] w w') : KFmt w0 d len log j v w' := by
  unfold KFmt at h ⊢
  split at h <;> first | exact h | (obtain ⟨k, e, h1, hk⟩ := h; exact ⟨k, e, h1, ht.heap hk (by simp)⟩)

set_option maxRecDepth 20000 in
theorem fmt1_step {g d L M Bd Bn Bl : Nat} {S : LogS} {W : World} (hl : S.log ≤ 4000) : StepV Tryz.prog (fun D w' => FmtAt w' g d L M Bd Bn Bl { S with disk := D } ∧ Tch [d, L, M] W w') (.func (.func 65) #[] #[.pointer (some ⟨Bn, 0, none⟩), .pointer (some ⟨Bd, 0, none⟩)]) (fun D => D.acts (LogS.fmtA S.log)) :=
  ⟨_, _, _, rfl, fun _ _ => rfl, fun D w ⟨h1, h2⟩ => (fmt1_any h1 hl).mono (by rintro e w' ⟨q1, q2, q3⟩; exact ⟨q1, q2, h2.trans q3⟩)⟩
set_option maxRecDepth 20000 in
theorem fmt2_step {g d L M Bd Bn Bl : Nat} {S : LogS} {W : World} (hl : S.log ≤ 4000) (hp : S.pages ≤ 16384) (hg : S.gen < 18446744073709551616) : StepV Tryz.prog (fun D w' => FmtAt w' g d L M Bd Bn Bl { S with disk := D } ∧ Tch [d, L, M] W w') (.func (.func 68) #[] #[.pointer (some ⟨Bl, 0, none⟩), .pointer (some ⟨Bd, 0, none⟩)]) (fun D => D.acts S.fmtB) :=
  ⟨_, _, _, rfl, fun _ _ => rfl, fun D w ⟨h1, h2⟩ => (fmt2_any h1 hl hp hg).mono (by rintro e w' ⟨q1, q2, q3⟩; exact ⟨q1, q2, h2.trans q3⟩)⟩
set_option maxRecDepth 20000 in
theorem fmt3_step {g d L M Bd Bn Bl : Nat} {S : LogS} {W : World} (hl : S.log ≤ 4000) (hp : S.pages ≤ 16384) (hg : S.gen < 18446744073709551616) : StepV Tryz.prog (fun D w' => FmtAt w' g d L M Bd Bn Bl { S with disk := D } ∧ Tch [d, L, M] W w') (.func (.func 70) #[.pointer (some ⟨g, 0, none⟩)] #[]) (fun D => D.acts S.headAs) :=
  ⟨_, _, _, rfl, fun _ _ => rfl, fun D w ⟨h1, h2⟩ => (head_f h1.lg hl hp hg).mono (by rintro e w' ⟨q1, q2, q3⟩; exact ⟨q1, h1.disk q2.hD q3, h2.trans q3⟩)⟩
theorem valsAt_row {w : World} {b : Nat} {c : Array Value} {e : TypeId} {fr : Nat × Nat} (h : w.heap[b]? = some (.cells c e fr)) : ValsAt w (some ⟨b, 0, none⟩) c.toList := by
  intro j v hj
  refine ⟨b, 0, rfl, ?_⟩
  rw [Nat.zero_add, cell_of_row w b j _ _ _ h, ← hj, Array.getElem?_toList]

set_option maxRecDepth 20000 in
set_option maxHeartbeats 1000000 in
theorem format_any {w : World} {d L M : Nat} {D : DiskS} (h : DiskAt w d L M D) (log : Int) :
    Calls Tryz.prog 35 #[.pointer (some ⟨d, 0, none⟩), .int .i64 log] w fun e w' =>
      e = .returned (.int .i64 (LogS.format D log).1) ∧ DiskAt w' d L M (LogS.format D log).2 ∧ Tch [d, L, M] w w' := by
  obtain ⟨W, hW⟩ : ∃ W, (w.alloc (.cells #[.pointer (some ⟨d, 0, none⟩)] 23)).alloc (.cells #[.int .i64 log] 3) = W := ⟨_, rfl⟩
  have hT : Tch [] w W := by rw [← hW]; exact ((Tch.refl _ _).alloc _).alloc _
  have cd : W.cell? ⟨w.heap.size, 0, none⟩ = some (.pointer (some ⟨d, 0, none⟩)) := by
    have hb : W.heap[w.heap.size]? = some (.cells #[.pointer (some ⟨d, 0, none⟩)] 23) := by rw [← hW, heap_alloc, if_neg (by simp), heap_alloc, if_pos rfl]
    rw [cell_of_row W _ 0 _ _ _ hb]; rfl
  have cn : W.cell? ⟨w.heap.size + 1, 0, none⟩ = some (.int .i64 log) := by
    have hb : W.heap[w.heap.size + 1]? = some (.cells #[.int .i64 log] 3) := by rw [← hW, heap_alloc, if_pos (by simp)]
    rw [cell_of_row W _ 0 _ _ _ hb]; rfl
  have HW := Lib.hid hW
  have HT := Lib.hid hT
  have HD := Lib.hid (h.touch hT (by simp) (by simp) (by simp))
  have hsz := h.ok.size
  have hnd : w.heap.size ≠ d := (ne_size h.hd).symm
  have hnL : w.heap.size ≠ L := (ne_size h.hL).symm
  have hnM : w.heap.size ≠ M := by have := h.hM.lt; omega
  have hlt1 : d < w.heap.size := lt_of_heap h.hd
  have hlt2 : L < w.heap.size := lt_of_heap h.hL
  have hlt3 : M < w.heap.size := h.hM.lt
  obtain ⟨len, hlen⟩ : ∃ len, D.lasts.length = len := ⟨_, rfl⟩
  rw [hlen] at hsz
  have LEN := Lib.hid hlen
  have CS : Hid (∀ w', (∃ n, w' = World.drewN W n) → Calls Tryz.prog 63 #[.pointer (some ⟨d, 0, none⟩)] w' fun e w'' => e = .returned (.int .i64 len) ∧ ∃ n, w'' = World.drewN W n) := fun w' ⟨n, hn⟩ => by
    subst hn
    exact (size_any (HD.out.touch (tch_drewN W n) (by simp) (by simp) (by simp))).mono (by rintro e w'' ⟨h1, rfl⟩; exact ⟨by rw [h1, LEN.out], n, rfl⟩)
  clear hW hT h hlen
  by_cases h1 : log < 3
  · have e : LogS.format D log = (2, D) := by unfold LogS.format; rw [if_pos h1]
    have E := Lib.hid e
    clear e
    go_enter Tryz.func35, Tryz.ntmps35
    go_upto_region 3 with fail
    rw [HW.out]
    (refine wp_region_walk (C := fun w' => ∃ n, w' = World.drewN W n) 13 (by kernel_rfl) (by kernel_rfl) ⟨1, rfl⟩ ?_; simp only [List.take_succ_cons, List.take_zero, List.drop_succ_cons, List.drop_zero]; (repeat (first | fail | go_big_quiet_step (fail))); refine wpQuiet_nil ?_; intro _ hw'; obtain ⟨nq, hw''⟩ := hw'; subst hw'')
    go_wp2_with fail
    go_ret
    rw [E.out]
    exact ⟨rfl, HD.out.touch (tch_drewN W nq) (by simp) (by simp) (by simp), (HT.out.trans (tch_drewN W nq)).mono (by simp)⟩
  by_cases h2 : 4000 < log
  · have e : LogS.format D log = (2, D) := by unfold LogS.format; rw [if_neg h1, if_pos h2]
    have E := Lib.hid e
    clear e
    go_enter Tryz.func35, Tryz.ntmps35
    go_upto_region 3 with fail
    rw [HW.out]
    (refine wp_region_walk (C := fun w' => ∃ n, w' = World.drewN W n) 13 (by kernel_rfl) (by kernel_rfl) ⟨1, rfl⟩ ?_; simp only [List.take_succ_cons, List.take_zero, List.drop_succ_cons, List.drop_zero]; (repeat (first | fail | go_big_quiet_step (fail))); refine wpQuiet_nil ?_; intro _ hw'; obtain ⟨nq, hw''⟩ := hw'; subst hw'')
    go_wp2_with fail
    go_ret
    rw [E.out]
    exact ⟨rfl, HD.out.touch (tch_drewN W nq) (by simp) (by simp) (by simp), (HT.out.trans (tch_drewN W nq)).mono (by simp)⟩
  have W1 : wrap64 (log + 3) = log + 3 := by unfold wrap64; omega
  by_cases h3 : (len : Int) < log + 3
  · have e : LogS.format D log = (2, D) := by unfold LogS.format; rw [if_neg h1, if_neg h2, LEN.out, if_pos h3]
    have E := Lib.hid e
    clear e
    go_enter Tryz.func35, Tryz.ntmps35
    go_upto_region 3 with fail
    rw [HW.out]
    (refine wp_region_walk (C := fun w' => ∃ n, w' = World.drewN W n) 13 (by kernel_rfl) (by kernel_rfl) ⟨1, rfl⟩ ?_; simp only [List.take_succ_cons, List.take_zero, List.drop_succ_cons, List.drop_zero]; (repeat (first | ((with_reducible refine wq_fn cf_size ?_ ?_ CS.out ?_); exact rfl; exact rfl; go_frame) | go_big_quiet_step (fail))); refine wpQuiet_nil ?_; intro _ hw'; obtain ⟨nq, hw''⟩ := hw'; subst hw'')
    go_wp2_with fail
    go_ret
    rw [E.out]
    exact ⟨rfl, HD.out.touch (tch_drewN W nq) (by simp) (by simp) (by simp), (HT.out.trans (tch_drewN W nq)).mono (by simp)⟩
  obtain ⟨n, rfl⟩ := Int.eq_ofNat_of_zero_le (show 0 ≤ log by omega)
  have hp : len - 2 - n ≤ 16384 := by omega
  have e : LogS.format D n = runS D [fun D => D.acts (LogS.fmtA n), fun D' => D'.acts (LogS.fresh D n).fmtB, fun D' => D'.acts (LogS.fresh D n).headAs] := by
    unfold LogS.format
    rw [if_neg h1, if_neg h2, LEN.out, if_neg h3]
    simp only [Int.toNat_natCast, runS]
    by_cases a1 : (D.acts (LogS.fmtA n)).1 = 0
    · rw [if_neg (by simp [a1]), if_pos a1]
      by_cases a2 : ((D.acts (LogS.fmtA n)).2.acts (LogS.fresh D n).fmtB).1 = 0
      · rw [if_neg (by simp [a2]), if_pos a2]
        split
        · rename_i a3; exact Prod.ext a3 rfl
        · rfl
      · rw [if_pos a2, if_neg a2]
    · rw [if_pos a1, if_neg a1]
  have E := Lib.hid e
  have Y2 : IntKind.i64.wrap ((len : Int) - 2) = len - 2 := by simp [IntKind.wrap, IntKind.bits, IntKind.signed]; omega
  have Y3 : IntKind.i64.wrap ((len : Int) - 2 - n) = len - 2 - n := by simp [IntKind.wrap, IntKind.bits, IntKind.signed]; omega
  clear e
  go_enter Tryz.func35, Tryz.ntmps35
  go_upto_region 3 with fail
  rw [HW.out]
  (refine wp_region_walk (C := fun w' => ∃ n, w' = World.drewN W n) 13 (by kernel_rfl) (by kernel_rfl) ⟨1, rfl⟩ ?_; simp only [List.take_succ_cons, List.take_zero, List.drop_succ_cons, List.drop_zero]; (repeat (first | ((with_reducible refine wq_fn cf_size ?_ ?_ CS.out ?_); exact rfl; exact rfl; go_frame) | go_big_quiet_step (fail))); refine wpQuiet_nil ?_; intro _ hw'; obtain ⟨nq, hw''⟩ := hw'; subst hw'')
  go_upto_region 5 with fail
  have HT2 := Lib.hid (HT.out.trans (tch_drewN W nq))
  have HD2 := Lib.hid (HD.out.touch (tch_drewN W nq) (by simp) (by simp) (by simp))
  have cd2 := cell_old (tch_drewN W nq) cd
  have cn2 := cell_old (tch_drewN W nq) cn
  clear CS HW HT HD cd cn
  generalize W.drewN nq = W2 at *
  have cd := cd2
  have cn := cn2
  have HD := HD2
  refine wp_region_valt 10 (fun w' => Tch [] W2 w') (KFmt W2 d len n) (by kernel_rfl) (by kernel_rfl) (by kernel_rfl) ((Tch.refl _ _).drew) (fun w4 w5 _ _ ht i v hk => hk.later ht) ?_ ?_
  · intro i o hi ho fu w' hC hold hdep
    have cd' := cell_old hC cd
    have cn' := cell_old hC cn
    have hi7 : i = 0 ∨ i = 1 ∨ i = 2 ∨ i = 3 ∨ i = 4 ∨ i = 5 ∨ i = 6 ∨ i = 7 ∨ i = 8 ∨ i = 9 := by omega
    rcases hi7 with rfl | rfl | rfl | rfl | rfl | rfl | rfl | rfl | rfl | rfl
    all_goals (simp only [List.getElem?_cons_zero, List.getElem?_cons_succ, Option.some.injEq] at ho; subst ho)
    · refine step_plain rfl ?_
      have x2 : fu.tmps[2]?.getD undef = .pointer (some ⟨w.heap.size, 0, none⟩) := ev_tmp (hold 2 (by show _ < 36; omega) (by kernel_rfl))
      go_simp
      exact ⟨rfl, Tch.refl _ _⟩
    · refine step_plain rfl ?_
      have x3 : fu.tmps[3]?.getD undef = .pointer (some ⟨w.heap.size + 1, 0, none⟩) := ev_tmp (hold 3 (by show _ < 36; omega) (by kernel_rfl))
      go_simp
      exact ⟨rfl, Tch.refl _ _⟩
    · refine step_plain rfl ?_
      have x2 : fu.tmps[2]?.getD undef = .pointer (some ⟨w.heap.size, 0, none⟩) := ev_tmp (hold 2 (by show _ < 36; omega) (by kernel_rfl))
      go_simp
      exact ⟨rfl, Tch.refl _ _⟩
    · refine step_plain rfl ?_
      have x23 : fu.tmps[23]?.getD undef = .pointer (some ⟨d, 0, none⟩) := ev_tmp (hdep 2 23 (by show _ < 36; omega) (by kernel_rfl) (by kernel_rfl))
      go_simp
      refine (size_any (HD.out.touch hC (by simp) (by simp) (by simp))).mono ?_
      rintro e w5 ⟨rfl, rfl⟩
      exact ⟨_, rfl, by rw [LEN.out]; rfl, hC, Tch.refl _ _⟩
    · refine step_plain rfl ?_
      have x24 : fu.tmps[24]?.getD undef = .int .i64 len := ev_tmp (hdep 3 24 (by show _ < 36; omega) (by kernel_rfl) (by kernel_rfl))
      go_simp
      exact ⟨rfl, Tch.refl _ _⟩
    · refine step_plain rfl ?_
      have x3 : fu.tmps[3]?.getD undef = .pointer (some ⟨w.heap.size + 1, 0, none⟩) := ev_tmp (hold 3 (by show _ < 36; omega) (by kernel_rfl))
      go_simp
      exact ⟨rfl, Tch.refl _ _⟩
    · refine step_plain rfl ?_
      have x25 : fu.tmps[25]?.getD undef = .int .i64 (len - 2) := ev_tmp (hdep 4 25 (by show _ < 36; omega) (by kernel_rfl) (by kernel_rfl))
      have x26 : fu.tmps[26]?.getD undef = .int .i64 n := ev_tmp (hdep 5 26 (by show _ < 36; omega) (by kernel_rfl) (by kernel_rfl))
      go_simp
      exact ⟨rfl, Tch.refl _ _⟩
    · refine step_plain rfl ?_
      have x21 : fu.tmps[21]?.getD undef = .pointer (some ⟨d, 0, none⟩) := ev_tmp (hdep 0 21 (by show _ < 36; omega) (by kernel_rfl) (by kernel_rfl))
      have x22 : fu.tmps[22]?.getD undef = .int .i64 n := ev_tmp (hdep 1 22 (by show _ < 36; omega) (by kernel_rfl) (by kernel_rfl))
      have x27 : fu.tmps[27]?.getD undef = .int .i64 (len - 2 - n) := ev_tmp (hdep 6 27 (by show _ < 36; omega) (by kernel_rfl) (by kernel_rfl))
      exact stpR_ok (exec_build_log x21 x22 x27) ⟨rfl, hC, Tch.refl _ _⟩
    · refine step_plain rfl ?_
      have x28 : fu.tmps[28]?.getD undef = .agg #[.pointer (some ⟨d, 0, none⟩), .int .i64 n, .int .i64 (len - 2 - n), .int .u64 1, .int .i64 0, .int .u64 0, .map none, .bool false] := ev_tmp (hdep 7 28 (by show _ < 36; omega) (by kernel_rfl) (by kernel_rfl))
      go_simp
      exact ⟨⟨_, rfl, hC.size, heap_alloc_new _ _⟩, hC.alloc _, (Tch.refl _ _).alloc _⟩
    · refine step_plain rfl ?_
      go_simp
      exact ⟨⟨_, rfl, hC.size, heap_alloc_new _ _⟩, hC.alloc _, (Tch.refl _ _).alloc _⟩
  · intro vs w2 hC hK
    obtain ⟨G, h8, hG, hgG⟩ := hK 8 (by omega)
    obtain ⟨B, h9, hB, hgB⟩ := hK 9 (by omega)
    have H8 := Lib.hid h8
    have H9 := Lib.hid h9
    have D2 := Lib.hid (HD.out.touch hC (by simp) (by simp) (by simp))
    have T2 := Lib.hid (HT2.out.trans hC)
    have G2 := Lib.hid hgG
    have B2 := Lib.hid hgB
    have cd' := cell_old hC cd
    have cn' := cell_old hC cn
    have hGB : G ≠ B := by
      rintro rfl
      rw [hgG] at hgB
      simp at hgB
    have hWw := HT2.out.size
    have hcw : w.heap.size + 1 < W2.heap.size := block_lt_of_cell cn2
    clear hK hC h8 h9 hgG hgB cd cn cd2 cn2 HD HD2 HT2
    unfold fullOf
    rw [show (List.range 10).map vs = [vs 0, vs 1, vs 2, vs 3, vs 4, vs 5, vs 6, vs 7, vs 8, vs 9] from rfl, H8.out, H9.out]
    generalize vs 0 = v0
    generalize vs 1 = v1
    generalize vs 2 = v2
    generalize vs 3 = v3
    generalize vs 4 = v4
    generalize vs 5 = v5
    generalize vs 6 = v6
    generalize vs 7 = v7
    clear H8 H9 vs
    simp only [List.take_succ_cons, List.take_zero, List.drop_succ_cons, List.drop_zero, putAll]
    go_frame
    have cB := cell_of_row w2 B 0 _ _ _ B2.out
    have fB := frozen_of_row w2 B 0 _ _ B2.out
    go_upto_region 6 with fail
    obtain ⟨w3, hw3⟩ : ∃ w3, w2.setCell ⟨B, 0, none⟩ (.pointer (some ⟨G, 0, none⟩)) = w3 := ⟨_, rfl⟩
    have t3 : Tch [B] w2 w3 := by rw [← hw3]; exact (Tch.refl _ _).setCell (by simp) _
    have cl : w3.cell? ⟨B, 0, none⟩ = some (.pointer (some ⟨G, 0, none⟩)) := by
      have hb : w3.heap[B]? = some (.cells #[.pointer (some ⟨G, 0, none⟩)] 73) := by rw [← hw3, heap_setCell_cells B2.out]; rfl
      rw [cell_of_row w3 _ 0 _ _ _ hb]; rfl
    have hcd : w3.cell? ⟨w.heap.size, 0, none⟩ = some (.pointer (some ⟨d, 0, none⟩)) := cell_touch t3 cd' (by simp; omega)
    have hcn : w3.cell? ⟨w.heap.size + 1, 0, none⟩ = some (.int .i64 n) := cell_touch t3 cn' (by have := block_lt_of_cell cn'; simp; omega)
    have hGw : w.heap.size + 1 < G := by omega
    have hBw : w.heap.size + 1 < B := by omega
    have hS : LogF w3 G d L M none (LogS.fresh D n) := by
      refine ⟨?_, D2.out.touch t3 (by simp; omega) (by simp; omega) (by simp; omega), by omega, by omega, by omega⟩
      have e : ((LogS.fresh D n).pages : Int) = len - 2 - n := by
        show ((D.lasts.length - 2 - n : Nat) : Int) = _
        rw [LEN.out]; omega
      rw [e]
      exact t3.heap G2.out (by simpa using hGB)
    have hF : FmtAt w3 G d L M w.heap.size (w.heap.size + 1) B (LogS.fresh D n) := ⟨hS, hcd, hcn, cl, by simp; omega, by simp; omega, by simp; omega⟩
    have T3 := Lib.hid (tch_own T2.out t3 (by simp; omega))
    have F3 := Lib.hid hF
    have HW3 := Lib.hid hw3
    have hpg : (LogS.fresh D n).pages ≤ 16384 := by show D.lasts.length - 2 - n ≤ _; rw [LEN.out]; exact hp
    have HPG := Lib.hid hpg
    have hmf : ∀ (fn : Fn) (first cap : Array Value) (w : World), (Instr.makeFunc fn first cap).run Tryz.prog w = .ok (.func fn first cap) w := fun _ _ _ _ => rfl
    clear t3 hS hF hw3 hcd hcn cd' cn' cB fB hpg Y2 Y3 W1
    have CALL : Hid (∀ w4, w3.alloc (.cells #[.func (.func 65) #[] #[.pointer (some ⟨w.heap.size + 1, 0, none⟩), .pointer (some ⟨w.heap.size, 0, none⟩)], .func (.func 68) #[] #[.pointer (some ⟨B, 0, none⟩), .pointer (some ⟨w.heap.size, 0, none⟩)], .func (.func 70) #[.pointer (some ⟨G, 0, none⟩)] #[]] 47) = w4 →
        Calls Tryz.prog 64 #[.slice (some ⟨w3.heap.size, 0, none⟩) 3 3] w4 fun e w' => e = .returned (.int .i64 (LogS.format D n).1) ∧ DiskAt w' d L M (LogS.format D n).2 ∧ Tch [d, L, M] w w') := by
      intro w4 hw4
      have t4 : Tch [] w3 w4 := by rw [← hw4]; exact (Tch.refl _ _).alloc _
      have hb4 := valsAt_row (w := w4) (b := w3.heap.size) (by rw [← hw4]; exact heap_alloc_new _ _)
      have hlt := lt_of_heap F3.out.lg.hD.hd
      have hlt2 := lt_of_heap F3.out.lg.hD.hL
      have hlt3 := F3.out.lg.hD.hM.lt
      have hF4 : FmtAt w4 G d L M w.heap.size (w.heap.size + 1) B (LogS.fresh D n) := ⟨F3.out.lg.touch t4 (by simp) (by simp) (by simp) (by simp), cell_old t4 F3.out.cd, cell_old t4 F3.out.cn, cell_old t4 F3.out.cl, F3.out.nd, F3.out.nn, F3.out.nl⟩
      have hl : (LogS.fresh D n).log ≤ 4000 := by show n ≤ 4000; omega
      have hg : (LogS.fresh D n).gen < 18446744073709551616 := by show 1 < _; omega
      refine (steps_any (R := fun D' w' => FmtAt w' G d L M w.heap.size (w.heap.size + 1) B { LogS.fresh D n with disk := D' } ∧ Tch [d, L, M] w4 w')
        (fs := [(.func (.func 65) #[] #[.pointer (some ⟨w.heap.size + 1, 0, none⟩), .pointer (some ⟨w.heap.size, 0, none⟩)], fun D' => D'.acts (LogS.fmtA n)), (.func (.func 68) #[] #[.pointer (some ⟨B, 0, none⟩), .pointer (some ⟨w.heap.size, 0, none⟩)], fun D' => D'.acts (LogS.fresh D n).fmtB), (.func (.func 70) #[.pointer (some ⟨G, 0, none⟩)] #[], fun D' => D'.acts (LogS.fresh D n).headAs)])
        ?_ (a := some ⟨w3.heap.size, 0, none⟩) (cap := 3) ?_ (s := D) ⟨hF4, Tch.refl _ _⟩ (by simp)).mono ?_
      · intro q hq
        simp only [List.mem_cons, List.not_mem_nil, or_false] at hq
        rcases hq with rfl | rfl | rfl
        · exact fmt1_step hl
        · exact fmt2_step hl HPG.out hg
        · exact fmt3_step hl HPG.out hg
      · rintro D' w' ⟨_, h2⟩
        intro j v hj
        obtain ⟨b, o, e, hc⟩ := hb4 j v hj
        cases e
        exact ⟨_, _, rfl, cell_touch h2 hc (by simp; omega)⟩
      · rintro e w' ⟨h1, h2, h3⟩
        simp only [List.map_cons, List.map_nil] at h1 h2
        rw [← E.out] at h1 h2
        exact ⟨h1, h2.lg.hD, ((T3.out.trans t4).mono (by simp)).trans h3⟩
    rw [HW3.out]
    have cl := F3.out.cl
    go_wp2_with (go_at_call 64; refine (CALL.out _ rfl).mono ?_; rintro e w' ⟨rfl, q2, q3⟩; have Q2 := Lib.hid q2; have Q3 := Lib.hid q3; clear q2 q3)
    go_ret
    exact ⟨rfl, Q2.out, Q3.out⟩
end Go.Proofs.YtkjgbhpnlgcinaaGreatDoor
