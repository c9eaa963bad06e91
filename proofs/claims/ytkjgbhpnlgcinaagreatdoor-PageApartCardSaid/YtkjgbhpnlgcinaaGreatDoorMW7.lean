/-
  A literal of two images.
-/
import Derived.Test.YtkjgbhpnlgcinaaGreatDoorMW6
import Derived.Test.YtkjgbhpnlgcinaaGreatDoorMW5
import Derived.Test.YtkjgbhpnlgcinaaGreatDoorMW6
import Derived.Test.YtkjgbhpnlgcinaaGreatDoorMArrs
namespace Go.Cib
open Go Go.RowKit
theorem fill_two {m : Nat} {c v u : Array Value} (hc : c.size = m + m) (hv : v.size = m) (hu : u.size = m) : Instr.fill (fun i => some (i * m, m)) c [(0, .agg v), (1, .agg u)] = some (v ++ u) := by
  unfold Instr.fill Instr.fill Instr.fill
  simp only [Nat.zero_mul, Nat.one_mul, Value.cells, hv, hu]
  have e1 : v.zipIdx.foldl (fun (cs : Array Value) (x : Value × Nat) => cs.setIfInBounds (0 + x.2) x.1) c = (v.toList ++ c.toList.drop m).toArray := by
    have h := foldl_set v.toList 0 c (by simp; omega)
    simp only [List.take_zero, List.nil_append, Nat.zero_add, Array.length_toList, hv] at h
    refine Eq.trans ?_ h
    rw [← Array.foldl_toList]
    simp
  rw [e1]
  generalize hd : (v.toList ++ c.toList.drop m).toArray = d
  have hds : d.size = m + m := by rw [← hd]; simp; omega
  have e2 : u.zipIdx.foldl (fun (cs : Array Value) (x : Value × Nat) => cs.setIfInBounds (m + x.2) x.1) d = v ++ u := by
    have h := foldl_set u.toList m d (by simp; omega)
    rw [List.drop_of_length_le (by simp; omega), List.append_nil, ← hd] at h
    have ht : (v.toList ++ c.toList.drop m).toArray.toList.take m = v.toList := by
      show (v.toList ++ c.toList.drop m).take m = v.toList
      rw [List.take_append_of_le_length (by simp; omega), List.take_of_length_le (by simp; omega)]
    rw [ht, hd] at h
    refine Eq.trans ?_ (h.trans (by simp))
    rw [← Array.foldl_toList]
    simp
  rw [e2, if_neg (by simp; omega), if_neg (by simp; omega)]
theorem imgsAt_one {w : World} {b : Nat} {n : Int} {p : Page} {e : TypeId} {fr : Nat × Nat} (h : w.heap[b]? = some (.cells (imageA n p) e fr)) : ImgsAt w (some ⟨b, 0, none⟩) [(n, p)] := by
  intro i q hi
  have s1 := size_imageA n p
  match i, hi with
  | 0, hi => cases hi; exact ⟨b, _, e, fr, rfl, h, by omega, by rw [Nat.zero_mul, Nat.zero_add, ← s1]; exact Array.extract_size⟩
  | k + 1, hi => cases hi
theorem imgsAt_two {w : World} {b : Nat} {n m : Int} {p q : Page} {e : TypeId} {fr : Nat × Nat} (h : w.heap[b]? = some (.cells (imageA n p ++ imageA m q) e fr)) : ImgsAt w (some ⟨b, 0, none⟩) [(n, p), (m, q)] := by
  intro i r hi
  have s1 := size_imageA n p
  have s2 := size_imageA m q
  match i, hi with
  | 0, hi =>
    cases hi
    refine ⟨b, _, e, fr, rfl, h, by simp only [Array.size_append]; omega, ?_⟩
    rw [Nat.zero_mul, Nat.zero_add]
    generalize imageA n p = v at *
    generalize imageA m q = u at *
    apply Array.toList_inj.1
    rw [Array.toList_extract, Array.toList_append, List.extract_eq_take_drop]
    simp [s1]
  | 1, hi =>
    cases hi
    refine ⟨b, _, e, fr, rfl, h, by simp only [Array.size_append]; omega, ?_⟩
    generalize imageA n p = v at *
    generalize imageA m q = u at *
    apply Array.toList_inj.1
    rw [Array.toList_extract, Array.toList_append, List.extract_eq_take_drop]
    rw [show 1 * 481 = v.toList.length by simp; omega, List.drop_left, List.take_of_length_le (by simp; omega)]
  | k + 2, hi => cases hi
section
variable {P : Program} {ops : Array Oper} {rest : List Oper} {a : Act} {w : World} {Q : Exit → Act → World → Prop} {dst : Option Tmp} {ty : TypeId} {pos : String} {af : Array Edge} {x y : Operand} {T S : TypeId}
theorem wc_slice_img2 (hz : ∃ i, P.info? T = some i ∧ i.zero = some (.agg (imageA 0 Arr.zero)) ∧ i.size = 481 ∧ i.bytes ≤ 600) (hS : P.underlying S = some (.slice T)) {n m : Int} {p q : Page} (hx : a.eval x = .agg (imageA n p)) (hy : a.eval y = .agg (imageA m q))
    (h : wpList P ops Q rest (a.put dst (.slice (some ⟨w.heap.size, 0, none⟩) 2 2)) (w.alloc (.cells (imageA n p ++ imageA m q) T))) : wpList P ops Q (⟨dst, .buildSlice S 2 #[(0, x), (1, y)], ty, pos, af, none⟩ :: rest) a w := by
  obtain ⟨i, h1, h2, h3, _⟩ := hz
  refine wc_value rfl ?_ h
  have s1 := size_imageA n p
  have s2 := size_imageA m q
  have s0 : (Value.agg (imageA 0 Arr.zero)).cells.size = 481 := size_imageA 0 Arr.zero
  have hf := fill_two (c := (Array.range 962).map (((Value.agg (imageA 0 Arr.zero)).cells)[· % ((Value.agg (imageA 0 Arr.zero)).cells).size]!)) (m := 481) (by simp) s1 s2
  generalize imageA n p = v at *
  generalize imageA m q = u at *
  generalize imageA 0 Arr.zero = z at *
  unfold execOp
  simp only [Instr.buildSlice, List.map_toArray, List.map_cons, List.map_nil, hx, hy]
  simp [Sem.run_bind, run_underlying hS, sizeOf, typeInfo, zeroValue, h1, h2, h3, newRow, hf]
end
end Go.Cib
/-
  The log's works: the walk of ciboriumlaw08.works.
-/
namespace Go.Proofs.YtkjgbhpnlgcinaaGreatDoor
open Go.RowKit Go.Cib
open WorksP

/-- A block that is made now is none of the log's. -/
theorem LogAt.apart {w : World} {g d L M V : Nat} {S : LogS} (h : LogAt w g d L M V S) : ∀ b : Nat, some (⟨w.heap.size, 0, none⟩ : Addr) = some ⟨b, 0, none⟩ → b ∉ [g, d, L, M, V] := by
  intro b hb
  cases hb
  simp only [List.mem_cons, List.not_mem_nil, or_false, not_or]
  exact ⟨(ne_size h.hg).symm, (ne_size h.hD.hd).symm, (ne_size h.hD.hL).symm, (Nat.ne_of_lt h.hD.hM.lt).symm, (Nat.ne_of_lt h.hV.lt).symm⟩
def txtP : Page := Arr.text [97]
theorem textP_any (w : World) : Calls Tryz.prog 54 #[.string { data := #[97] }] w fun e w' => e = .returned (.agg (secA txtP)) ∧ Tch [] w w' := ptext_any _ _ (by decide)
theorem ok2 (h : S1.Ok) (a : Page) : (S2a a).Ok := by
  have hl : (D2 a).lasts.length = 12 := (com a).2.2.1
  have k1 : ({ S1 with disk := D2 a } : LogS).Ok := h.disk (hl.trans fmt.2.2.1.symm)
  have hu : ({ S1 with disk := D2 a } : LogS).used + (w1 a).length + 2 ≤ ({ S1 with disk := D2 a } : LogS).log := by show 0 + 2 + 2 ≤ 5; decide
  have k2 := LogS.Ok.took k1 (ws := w1 a) hu (by
    intro q hq
    show q.1 < 5
    rcases List.mem_cons.1 hq with h | h
    · rw [h]; show 1 < 5; decide
    · rw [List.mem_singleton.1 h]; show 4 < 5; decide)
  have k3 : (S2 a).Ok := k2
  have hd : (D2a a).lasts.length = (S2 a).disk.lasts.length := by rw [D2a_eq, set_lasts]; rfl
  exact k3.disk hd
/-- An Open that comes to a log. -/
theorem open_ok {w : World} {d L M : Nat} {D D' : DiskS} {S : LogS} (h : DiskAt w d L M D) (ho : LogS.opens D = (0, some S, D')) :
    Calls Tryz.prog 37 #[.pointer (some ⟨d, 0, none⟩)] w fun e w' => ∃ g V, e = .returned (.tuple #[.pointer (some ⟨g, 0, none⟩), .int .i64 0]) ∧ LogAt w' g d L M V S ∧ S.Ok ∧ Tch [d, L, M] w w' ∧ w.heap.size ≤ g ∧ w.heap.size ≤ V := by
  refine (open_any h).mono ?_
  intro e w' hq
  rw [ho] at hq
  obtain ⟨t, _, hq⟩ := hq
  rcases hq with ⟨h1, _⟩ | ⟨S', g, V, h1, h2, _, h4, h5, h6, h7⟩
  · cases h1
  · cases h1
    exact ⟨g, V, h2, h4, h5, t, h6, h7⟩
theorem fillP (n : Int) (p : Page) : fillI 0 Arr.zero [(0, .int .i64 n), (1, .agg (secA p))] = some (imageA n p) := by rw [fillI_num, fillI_page, fillI_nil]
end Go.Proofs.YtkjgbhpnlgcinaaGreatDoor
/-
  A fresh log on a fresh disk, plain: what Format leaves, and what Open finds in it; for any place.
-/
namespace Go.Cib
open Go Go.RowKit
namespace BegunP
variable {k h : Nat}
def Fits (k h : Nat) : Prop := 3 ≤ k ∧ k ≤ 4000 ∧ 1 ≤ h ∧ 2 + k + h ≤ 16384
def D0 (k h : Nat) : DiskS := DiskS.made (2 + k + h)
theorem len0 : (D0 k h).lasts.length = 2 + k + h := by unfold D0 DiskS.made; simp
theorem calm0 (f : Fits k h) : (D0 k h).Calm := ⟨rfl, rfl, DiskS.Ok.made (by omega) f.2.2.2⟩
def L0 (k h : Nat) : LogS := ⟨D0 k h, k, h, 1, 0, 0, fun _ => none, false⟩
theorem fresh0 : LogS.fresh (D0 k h) k = L0 k h := by
  unfold LogS.fresh L0; rw [len0, show 2 + k + h - 2 - k = h by omega]
theorem in1 : DiskS.InA ((2 + k + h : Nat) : Int) (LogS.fmtA k) := by
  intro i s hi
  unfold LogS.fmtA at hi
  rcases List.mem_append.1 hi with hi | hi
  · obtain ⟨q, hq, e⟩ := List.mem_map.1 hi
    cases e
    have := List.mem_range.1 hq
    omega
  · simp at hi
theorem in2 : DiskS.InA ((2 + k + h : Nat) : Int) (L0 k h).fmtB := by
  intro i s hi
  unfold LogS.fmtB at hi
  rcases List.mem_append.1 hi with hi | hi
  · obtain ⟨q, hq, e⟩ := List.mem_map.1 hi
    cases e
    have hq' : q < h := List.mem_range.1 hq
    show 0 ≤ ((2 + k + q : Nat) : Int) ∧ ((2 + k + q : Nat) : Int) < ((2 + k + h : Nat) : Int)
    omega
  · simp at hi
theorem in3 : DiskS.InA ((2 + k + h : Nat) : Int) (L0 k h).headAs := by
  intro i s hi
  unfold LogS.headAs at hi
  simp at hi
  rw [hi.1]
  show 0 ≤ ((1 % 2 : Nat) : Int) ∧ ((1 % 2 : Nat) : Int) < ((2 + k + h : Nat) : Int)
  omega
def D1 (k h : Nat) : DiskS := (LogS.format (D0 k h) k).2
def all1 (k h : Nat) : List DAct := LogS.fmtA k ++ (L0 k h).fmtB ++ (L0 k h).headAs
theorem fmt (f : Fits k h) : (LogS.format (D0 k h) k).1 = 0 ∧ (D1 k h).Calm ∧ (D1 k h).lasts.length = 2 + k + h ∧ (D1 k h).waits = (fun _ => none) ∧ ∀ (j : Int), 0 ≤ j → j < ((2 + k + h : Nat) : Int) → (D1 k h).at_ j = DiskS.layA (D0 k h).at_ (all1 k h) j := by
  obtain ⟨f1, f2, f3, f4⟩ := id f
  obtain ⟨a1, a2, a3⟩ := (calm0 f).acts (LogS.fmtA k) (by rw [len0]; exact in1)
  have l1 : ((D0 k h).acts (LogS.fmtA k)).2.lasts.length = 2 + k + h := by rw [DiskS.length_acts]; exact len0
  obtain ⟨b1, b2, b3⟩ := a2.acts (L0 k h).fmtB (by rw [l1]; exact in2)
  have l2 : (((D0 k h).acts (LogS.fmtA k)).2.acts (L0 k h).fmtB).2.lasts.length = 2 + k + h := by rw [DiskS.length_acts]; exact l1
  obtain ⟨c1, c2, c3⟩ := b2.acts (L0 k h).headAs (by rw [l2]; exact in3)
  have e : LogS.format (D0 k h) k = (((D0 k h).acts (LogS.fmtA k)).2.acts (L0 k h).fmtB).2.acts (L0 k h).headAs := by
    unfold LogS.format
    rw [if_neg (by omega), if_neg (by omega), if_neg (by rw [len0]; omega)]
    rw [Int.toNat_natCast, fresh0]
    rw [if_neg (by rw [a1]; simp), if_neg (by rw [b1]; simp)]
  have hw : ((((D0 k h).acts (LogS.fmtA k)).2.acts (L0 k h).fmtB).2.acts (L0 k h).headAs).2.waits = fun _ => none := by
    have : (L0 k h).headAs = [.write (((L0 k h).gen % 2 : Nat) : Int) (L0 k h).headF.sector] ++ [.flush] := rfl
    rw [this]
    refine DiskS.flush_waits b2 _ ?_
    rw [l2]
    intro i s hi
    exact in3 i s (by rw [this]; exact List.mem_append_left _ hi)
  unfold D1
  rw [e]
  refine ⟨c1, c2, by rw [DiskS.length_acts]; exact l2, hw, fun j h0 h1 => ?_⟩
  rw [c3 j h0 (by rw [l2]; exact h1)]
  unfold all1
  rw [DiskS.layA_append, DiskS.layA_append]
  refine DiskS.layA_congr (n := ((2 + k + h : Nat) : Int)) (fun j g0 g1 => ?_) _ j h0 h1
  rw [b3 j g0 (by rw [l1]; exact g1)]
  exact DiskS.layA_congr (n := ((2 + k + h : Nat) : Int)) (fun j k0 k1 => a3 j k0 (by rw [len0]; exact k1)) _ j g0 g1
theorem lay_range (f : Int → Sec) (b : Nat) (s : Nat → Sec) : ∀ (n : Nat) (j : Int), DiskS.layA f ((List.range n).map fun i => DAct.write ((b + i : Nat) : Int) (s i)) j = if (b : Int) ≤ j ∧ j < ((b + n : Nat) : Int) then s (j - b).toNat else f j
  | 0, j => by rw [if_neg (by omega)]; rfl
  | n + 1, j => by
    rw [List.range_succ, List.map_append, DiskS.layA_append]
    show (if j = ((b + n : Nat) : Int) then s n else DiskS.layA f ((List.range n).map fun i => DAct.write ((b + i : Nat) : Int) (s i)) j) = _
    rw [lay_range f b s n j]
    by_cases h : j = ((b + n : Nat) : Int)
    · rw [if_pos h, if_pos (by omega), show (j - b).toNat = n by omega]
    · rw [if_neg h]
      by_cases h2 : (b : Int) ≤ j ∧ j < ((b + n : Nat) : Int)
      · rw [if_pos h2, if_pos (by omega)]
      · rw [if_neg h2, if_neg (by omega)]
theorem at1 (f : Fits k h) (j : Nat) (hj : j < 2 + k + h) : (D1 k h).at_ (j : Int) = if j = 1 then (L0 k h).headF.sector else if 2 + k ≤ j then ((L0 k h).homeF (j - (2 + k)) Arr.zero).sector else Arr.zero := by
  rw [(fmt f).2.2.2.2 j (by omega) (by omega)]
  unfold all1
  rw [DiskS.layA_append, DiskS.layA_append]
  have e3 : (L0 k h).headAs = [.write ((1 : Nat) : Int) (L0 k h).headF.sector, .flush] := rfl
  have e2 : (L0 k h).fmtB = ((List.range h).map fun p => DAct.write ((2 + k + p : Nat) : Int) ((L0 k h).homeF p Arr.zero).sector) ++ [.flush] := rfl
  have e1 : LogS.fmtA k = ((List.range (k + 2)).map fun (i : Nat) => DAct.write ((0 + i : Nat) : Int) Arr.zero) ++ [.flush] := by
    unfold LogS.fmtA; simp only [Nat.zero_add]
  rw [e3, e2, e1]
  show (if (j : Int) = ((1 : Nat) : Int) then _ else _) = _
  by_cases h1 : j = 1
  · rw [if_pos (by omega), if_pos h1]
  · rw [if_neg (by omega), if_neg h1, DiskS.layA_append]
    show DiskS.layA _ ((List.range h).map fun p => DAct.write ((2 + k + p : Nat) : Int) ((L0 k h).homeF p Arr.zero).sector) (j : Int) = _
    rw [lay_range _ (2 + k) (fun p => ((L0 k h).homeF p Arr.zero).sector) h]
    by_cases h2 : 2 + k ≤ j
    · rw [if_pos (by omega), if_pos h2, show ((j : Int) - ((2 + k : Nat) : Int)).toNat = j - (2 + k) by omega]
    · rw [if_neg (by omega), if_neg h2, DiskS.layA_append]
      show DiskS.layA _ ((List.range (k + 2)).map fun (i : Nat) => DAct.write ((0 + i : Nat) : Int) Arr.zero) (j : Int) = _
      rw [lay_range _ 0 (fun _ => Arr.zero) (k + 2), if_pos (by omega)]
/-- The log on it. -/
def S1 (k h : Nat) : LogS := ⟨D1 k h, k, h, 1, 0, 0, fun _ => none, false⟩
theorem heads_of {D : DiskS} (f : Fits k h) (hc : D.Calm) (hl : D.lasts.length = 2 + k + h) (h0 : D.at_ 0 = Arr.zero) (h1 : D.at_ 1 = (L0 k h).headF.sector) : LogS.heads D = ⟨D, k, h, 1, 0, 0, fun _ => none, false⟩ := by
  obtain ⟨f1, f2, f3, f4⟩ := id f
  have r0 : D.read 0 = (Arr.zero, 0) := by rw [hc.read (by decide) (by rw [hl]; omega), h0]
  have r1 : D.read 1 = ((L0 k h).headF.sector, 0) := by rw [hc.read (by decide) (by rw [hl]; omega), h1]
  unfold LogS.heads
  rw [r0, r1]
  simp only
  rw [LogS.chooses_zero]
  have e : (L0 k h).headF = ⟨1, 1, 0, 0, numsPage [k, h]⟩ := rfl
  rw [e, LogS.chooses_of (S := LogS.blank D) (g := 1) (log := k) (pages := h) (show (0 : Nat) < 1 by decide) (by decide) (by decide) f1 f2 f3 (by omega) (by rw [show (LogS.blank D).disk = D from rfl, hl])]
  rfl
theorem z0 (f : Fits k h) : (D1 k h).at_ 0 = Arr.zero := by
  have := at1 f 0 (by omega)
  rw [if_neg (by omega), if_neg (by omega)] at this
  exact this
theorem z1 (f : Fits k h) : (D1 k h).at_ 1 = (L0 k h).headF.sector := by
  have := at1 f 1 (by omega)
  rw [if_pos rfl] at this
  exact this
theorem z2 (f : Fits k h) : (D1 k h).at_ 2 = Arr.zero := by
  have hf := f.1
  have := at1 f 2 (by omega)
  rw [if_neg (by omega), if_neg (by omega)] at this
  exact this
theorem open1 (f : Fits k h) : LogS.opens (D1 k h) = (0, some (S1 k h), D1 k h) := by
  obtain ⟨_, hc, hl, _, _⟩ := fmt f
  have hh := heads_of f hc hl (z0 f) (z1 f)
  have e0 : ((D1 k h).read 0).2 = 0 := by rw [hc.read (by decide) (by rw [hl]; omega)]
  have e1 : ((D1 k h).read 1).2 = 0 := by rw [hc.read (by decide) (by rw [hl]; omega)]
  have hr : (S1 k h).record = none := by
    apply LogS.record_none
    apply LogS.atOk_none
    show reads ((D1 k h).at_ 2) = none
    rw [z2 f]; exact reads_zero
  have hk : (S1 k h).checkpoint = (0, S1 k h) := by
    unfold LogS.checkpoint
    rw [if_neg (by show ¬ false = true; decide), if_pos (by rfl)]
  have hg : ¬ (LogS.heads (D1 k h)).gen = 0 := by rw [hh]; exact Nat.one_ne_zero
  have hr' : ((LogS.heads (D1 k h)).runs (LogS.heads (D1 k h)).log).checkpoint = (0, S1 k h) := by
    rw [hh]
    show ((S1 k h).runs k).checkpoint = _
    rw [LogS.runs_stop k (S1 k h) hr, hk]
  unfold LogS.opens
  rw [if_neg (not_not_intro e0), if_neg (not_not_intro e1), if_neg hg, hr', if_neg (not_not_intro rfl)]
  rfl
end BegunP
end Go.Cib
/-
  The place of a log that may be: the walk of ciboriumlaw08.tidy.
-/
namespace Go.Proofs.YtkjgbhpnlgcinaaGreatDoor
open Go.RowKit Go.Cib
def tidyLog (l : Int) : Int := 3 + (l.tmod 20 + 20).tmod 20
def tidySec (s l : Int) : Int := 2 + tidyLog l + 1 + (s.tmod 20 + 20).tmod 20
theorem mod20 (x : Int) : 0 ≤ (x.tmod 20 + 20).tmod 20 ∧ (x.tmod 20 + 20).tmod 20 < 20 ∧ -20 < x.tmod 20 ∧ x.tmod 20 < 20 := by
  have h1 := Int.tmod_lt_of_pos x (b := 20) (by decide)
  have h2 : -20 < x.tmod 20 := by have := Int.lt_tmod_of_pos x (b := 20) (by decide); omega
  have h3 : 0 ≤ x.tmod 20 + 20 := by omega
  exact ⟨Int.tmod_nonneg _ h3, Int.tmod_lt_of_pos _ (by decide), h2, h1⟩
end Go.Proofs.YtkjgbhpnlgcinaaGreatDoor
/-
  A fresh log: the walk of ciboriumlaw08.begun.
-/
namespace Go.Cib
open Go Go.RowKit
namespace BegunP
variable {k h : Nat}
theorem lay1 (f : Fits k h) : LogS.Lay true (D1 k h).at_ (S1 k h) (fun _ => Arr.zero) := by
  obtain ⟨f1, f2, f3, f4⟩ := id f
  refine ⟨f1, f2, f3, by show h ≤ 16384; omega, Nat.zero_le _, Nat.zero_le _, fun i x hx => (by cases hx), (by show 1 ≤ 1; decide), (by show 1 < 18446744073709551616; decide), z1 f, ?_, ⟨[], rfl⟩, ?_, ?_, ?_, fun p _ x hx => (by cases hx)⟩
  · intro g hg
    have e0 : (S1 k h).gen = 1 := rfl
    rw [e0, show (((1 + 1) % 2 : Nat) : Int) = 0 from rfl] at hg
    have e1 : (D1 k h).at_ 0 = Arr.zero := z0 f
    rw [e1, reads_zero] at hg
    cases hg
  · intro _ p hp g hg
    change p < k at hp
    rw [at1 f _ (by omega), if_neg (by omega), if_neg (by omega), reads_zero] at hg; cases hg
  · intro _ p _ hp g hg
    change p < k at hp
    rw [at1 f _ (by omega), if_neg (by omega), if_neg (by omega), reads_zero] at hg; cases hg
  · intro p hp _
    change p < h at hp
    refine ⟨L0 k h, (by show 1 < 18446744073709551616; decide), ?_⟩
    show (D1 k h).at_ ((2 + k + p : Nat) : Int) = _
    rw [at1 f _ (by omega), if_neg (by omega), if_pos (by omega), show 2 + k + p - (2 + k) = p by omega]
theorem sound1 (f : Fits k h) : LogS.Sound true (S1 k h) (fun _ => Arr.zero) := by
  obtain ⟨_, hc, hl, hw, _⟩ := fmt f
  exact ⟨lay1 f, hc.ok, hw, hc.dead, rfl, hl.symm⟩
theorem free1 (f : Fits k h) (p : Nat) (hp : p < k) : (D1 k h).at_ ((2 + p : Nat) : Int) = Arr.zero := by
  rw [at1 f _ (by omega), if_neg (by omega), if_neg (by omega)]
theorem armed1 (f : Fits k h) : (S1 k h).disk.armed = 0 := (fmt f).2.1.armed
end BegunP
end Go.Cib
namespace Go.Proofs.YtkjgbhpnlgcinaaGreatDoor
open Go.RowKit Go.Cib
open BegunP
/-- The place that tidy makes. -/
theorem tidy_place (s l : Int) : ∃ k h : Nat, tidyLog l = (k : Int) ∧ tidySec s l = ((2 + k + h : Nat) : Int) ∧ Fits k h ∧ k ≤ 22 ∧ h ≤ 20 := by
  obtain ⟨l0, l1, _, _⟩ := mod20 l
  obtain ⟨s0, s1, _, _⟩ := mod20 s
  unfold tidyLog tidySec tidyLog
  generalize (l.tmod 20 + 20).tmod 20 = a at *
  generalize (s.tmod 20 + 20).tmod 20 = b at *
  refine ⟨(3 + a).toNat, (1 + b).toNat, by omega, by omega, ⟨by omega, by omega, by omega, by omega⟩, by omega, by omega⟩
end Go.Proofs.YtkjgbhpnlgcinaaGreatDoor
/-
  Slices of pages, and of images, read: small laws.
-/
namespace Go.Cib
open Go Go.RowKit
section
variable {P : Program} {T : TypeId} {ops : Array Oper} {rest : List Oper} {a : Act} {w : World} {Q : Exit → Act → World → Prop} {C : World → Prop} {Qs : Act → Prop} {dst : Option Tmp} {ty : TypeId} {pos : String} {af : Array Edge} {x y : Operand} {gd : Option (Nat × Bool)}
/-- The page number of an image of a list. -/
theorem ImgsAt.num {b : Nat} {l : List (Int × Page)} (h : ImgsAt w (some ⟨b, 0, none⟩) l) {i : Nat} {q : Int × Page} (hi : l[i]? = some q) : w.cell? ⟨b, i * 481, none⟩ = some (.int .i64 q.1) := by
  obtain ⟨b', c, e, fr, h1, h2, h3, h4⟩ := h i q hi
  cases h1
  rw [cell_of_row w b (i * 481) _ _ _ h2]
  have h5 : (c.extract (i * 481) (i * 481 + 481))[0]? = (imageA q.1 q.2)[0]? := by rw [h4]
  rw [Array.getElem?_extract] at h5
  rw [if_pos (by omega), Nat.add_zero] at h5
  rw [h5]
  simp [imageA]
set_option maxRecDepth 20000 in
/-- The page of an image of a list. -/
theorem exec_load_listpage (hT : AggT P T 480) {b : Nat} {l : List (Int × Page)} (h : ImgsAt w (some ⟨b, 0, none⟩) l) {i : Nat} {q : Int × Page} (hi : l[i]? = some q) {o : Oper} (ho : o.op = .load T x) (hx : a.eval x = .pointer (some ⟨b, i * 481 + 1, none⟩)) :
    (execOp a.eval o).run P w = .ok (.value (.agg (secA q.2))) w := by
  obtain ⟨b', c, e, fr, h1, h2, h3, h4⟩ := h i q hi
  cases h1
  rw [exec_load_agg hT ho hx h2 (by omega)]
  congr 3
  have h5 : (imageA q.1 q.2).extract 1 481 = secA q.2 := by
    apply Array.toList_inj.1
    rw [Array.toList_extract, List.extract_eq_take_drop]
    have h1 : (imageA q.1 q.2).toList = .int .i64 q.1 :: (secA q.2).toList := by simp [imageA]
    rw [h1, List.drop_succ_cons, List.drop_zero, List.take_of_length_le (by rw [Array.length_toList, size_secA]; omega)]
  rw [← h4, Array.extract_extract] at h5
  rw [← h5]
  congr 1
  omega
theorem wq_load_listpage (hT : AggT P T 480) {b : Nat} {l : List (Int × Page)} (h : ∀ w, C w → ImgsAt w (some ⟨b, 0, none⟩) l) {i : Nat} {q : Int × Page} (hi : l[i]? = some q) (hw : Region.wanted ⟨dst, .load T x, ty, pos, af, gd⟩ (yielded ops a.tmps) = true) (hx : a.eval x = .pointer (some ⟨b, i * 481 + 1, none⟩))
    (hk : wpQuiet P ops C Qs rest (a.put dst (.agg (secA q.2)))) : wpQuiet P ops C Qs (⟨dst, .load T x, ty, pos, af, gd⟩ :: rest) a :=
  wq_value hw (fun w hc => exec_load_listpage hT (h w hc) hi rfl hx) hk
/-- 'append(nil, xs...)', xs a row that is not empty. -/
theorem wc_append_new {n : Nat} (hT : BytesT P T n) {S : TypeId} (hS : P.underlying S = some (.slice T)) (hn : 0 < n) {b : Nat} {ls : List (Arr n)} {cap : Nat} (hb : SecsIn w b ls) (hls : ls ≠ [])
    (hlim : ls.length * n ≤ 140737488355328) {ar : Array Operand} {ts : Array TypeId} (har : ar = #[x, y]) (hts : ts = #[S, S]) (hx : a.eval x = .slice none 0 0) (hy : a.eval y = .slice (some ⟨b, 0, none⟩) ls.length cap)
    (h' : ∀ k cap' w', Tch [] w w' → w.heap.size ≤ k → SecsIn w' k ls → wpList P ops Q rest (a.put dst (.slice (some ⟨k, 0, none⟩) ls.length cap')) w') :
    wpList P ops Q (⟨dst, .call { callee := .builtin .append, args := ar, argTypes := ts }, ty, pos, af, none⟩ :: rest) a w := by
  subst har hts
  obtain ⟨i, h1, h2, h3, h4⟩ := hT.info
  obtain ⟨cur0, e0, hb1, hb2, hb3⟩ := hb
  refine wpList_append_own w rfl x y S rfl w.heap.size T i (.agg (bytesA (List.replicate n 0))) n n hS h1 h4 h2 h3 (by simp [Value.cells]) hn (.slice none 0 0) 0 [] hx (World.ownsRow_nil w _ T n) ⟨b, 0, none⟩ ls.length cap (secsA ls).toList hy (by simp) ?_ ?_ ?_ ?_ (Nat.le_refl _) ?_
  · intro j u hj
    rw [add_mk, Nat.zero_add, cell_of_row w b j _ _ _ hb1]
    rw [← hb3, Array.getElem?_toList] at hj
    have hjs : j < ls.length * n := by
      have := (Array.getElem?_eq_some_iff.1 hj).1
      simp at this
      omega
    rw [Array.getElem?_extract, if_pos (by omega), Nat.zero_add] at hj
    exact hj
  · exact secsA_one ls
  · unfold maxLen
    have : ls.length ≤ ls.length * n := Nat.le_mul_of_pos_right _ hn
    omega
  · rw [Nat.zero_add]; exact hlim
  · intro v' w' hown hgr _
    rw [Nat.zero_add, List.nil_append] at hown
    obtain ⟨hl, hv | ⟨k, cap', cur, rfl, hgk, hk, hc1, hc2, hc3, hc4⟩⟩ := hown
    · exfalso
      obtain ⟨_, h0⟩ := hv
      exact hls (List.eq_nil_of_length_eq_zero h0)
    · have hlen : ls.length * n ≤ cur.size := by rw [hc3]; exact Nat.mul_le_mul_right _ hc1
      refine h' k cap' w' (Tch.of_grown hgr (fun q hq => by simp [Value.ownBlock] at hq)) hgk ⟨cur, T, hk, hlen, ?_⟩
      apply Array.toList_inj.1
      rw [Array.toList_extract, List.extract_eq_take_drop, List.drop_zero, Nat.sub_zero, hc4]
end
/-- The pages behind images. -/
def putL (ls : List Page) (ws : List (Int × Page)) : List Page := ws.foldl (fun l q => l.set q.1.toNat q.2) ls
theorem length_putL (ws : List (Int × Page)) : ∀ ls : List Page, (putL ls ws).length = ls.length := by
  induction ws with
  | nil => exact fun _ => rfl
  | cons q ws ih => intro ls; exact (ih _).trans (List.length_set ..)
theorem putL_take {ls : List Page} {ws : List (Int × Page)} {j : Nat} {q : Int × Page} (h : ws[j]? = some q) : putL ls (ws.take (j + 1)) = (putL ls (ws.take j)).set q.1.toNat q.2 := by
  rw [List.take_add_one, h]
  unfold putL
  rw [List.foldl_append]
  rfl
/-- Pages as a function. -/
def nowOf (ls : List Page) : Nat → Page := fun p => ls.getD p Arr.zero
theorem nowOf_put (ws : List (Int × Page)) : ∀ (ls : List Page), (∀ q ∈ ws, 0 ≤ q.1 ∧ q.1 < (ls.length : Int)) → ∀ (now : Nat → Page), (∀ p, p < ls.length → now p = nowOf ls p) → ∀ p, p < ls.length → LogS.putNow now (LogS.nats ws) p = nowOf (putL ls ws) p := by
  induction ws with
  | nil => exact fun ls _ now h p hp => h p hp
  | cons q ws ih =>
    intro ls hq now h p hp
    have hq0 := hq q (by simp)
    show LogS.putNow (fun p => if p = q.1.toNat then q.2 else now p) (LogS.nats ws) p = nowOf (putL (ls.set q.1.toNat q.2) ws) p
    refine ih (ls.set q.1.toNat q.2) (fun r hr => by rw [List.length_set]; exact hq r (List.mem_cons_of_mem _ hr)) _ (fun p' hp' => ?_) p (by rw [List.length_set]; exact hp)
    rw [List.length_set] at hp'
    unfold nowOf
    rw [List.getD_eq_getElem?_getD, List.getElem?_set]
    by_cases e : p' = q.1.toNat
    · rw [if_pos e, if_pos e.symm, if_pos (by omega)]; rfl
    · rw [if_neg e, if_neg (fun h => e h.symm), h p' hp']
      unfold nowOf
      rw [List.getD_eq_getElem?_getD]
namespace LogS
/-- Only the pages that are there count. -/
theorem Lay.now {z : Bool} {m : Int → Sec} {S : LogS} {now now' : Nat → Page} (h : Lay z m S now) (hn : ∀ p, p < S.pages → now' p = now p) : Lay z m S now' :=
  ⟨h.log3, h.log4, h.pages1, h.pages2, h.used, h.records, h.sup, h.gen1, h.gen2, h.head, h.other, h.recs, h.gens, h.zone, fun p hp ho => by rw [hn p hp]; exact h.homes p hp ho, fun p hp x hx => by rw [hn p hp]; exact h.over p hp x hx⟩
theorem Sound.now {z : Bool} {S : LogS} {now now' : Nat → Page} (h : Sound z S now) (hn : ∀ p, p < S.pages → now' p = now p) : Sound z S now' :=
  ⟨h.lay.now hn, h.dok, h.still, h.alive, h.live, h.size⟩
end LogS
end Go.Cib
