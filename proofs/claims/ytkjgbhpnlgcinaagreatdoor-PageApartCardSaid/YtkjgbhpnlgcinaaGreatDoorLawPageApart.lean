/-
  Where there are no pages all is refused: the walk of PageNil.
-/
import Derived.Test.YtkjgbhpnlgcinaaGreatDoorMP6
import Derived.Test.YtkjgbhpnlgcinaaGreatDoorMP6
import Derived.ProofKit
import Derived.OpenShut
import Derived.ShutString
import Derived.ChangeOld
import Derived.Deep.Slices
import Derived.Deep.Strs
import Derived.Test.YtkjgbhpnlgcinaaGreatDoorRows
import Derived.Lib.LaidTab
import Derived.LaidHandle
import Derived.Handed
import Derived.SevenTiedAt
import Derived.Test.YtkjgbhpnlgcinaaGreatDoorTie
import Derived.Test.YtkjgbhpnlgcinaaGreatDoorCards
import Derived.Test.YtkjgbhpnlgcinaaGreatDoorMBools
import Derived.Test.YtkjgbhpnlgcinaaGreatDoorMW7
import Derived.Maps.AppendAt
namespace Go.Proofs.YtkjgbhpnlgcinaaGreatDoor
open Go.RowKit Go.Cib
set_option maxRecDepth 20000 in
set_option maxHeartbeats 2000000 in
theorem pageNil_any (w : World) (tab : Tab w) (dd ii nn : Int) (tx kk : Value) :
    Calls Tryz.prog 5 #[.agg #[.int .i64 dd, .int .i64 ii, .int .i64 nn, tx, kk]] w fun e w' => e = .returned (.bool true) ∧ Tch [] w w' := by
  have t0 : Tch [] w (w.alloc (.cells #[.int .i64 dd, .int .i64 ii, .int .i64 nn, tx, kk] 46)) := (Tch.refl _ _).alloc _
  have b0 : (w.alloc (.cells #[.int .i64 dd, .int .i64 ii, .int .i64 nn, tx, kk] 46)).heap[w.heap.size]? = some (.cells #[.int .i64 dd, .int .i64 ii, .int .i64 nn, tx, kk] 46) := heap_alloc_new _ _
  have T0 := Lib.hid t0
  have B0 := Lib.hid b0
  have TAB := Lib.hid (tab.touch t0 (by simp))
  clear t0 b0 tab
  go_enter Tryz.func5, Tryz.ntmps5
  go_upto_region 1 with fail
  generalize w.alloc (.cells #[.int .i64 dd, .int .i64 ii, .int .i64 nn, tx, kk] 46) = w1 at *
  generalize w.heap.size = B at *
  have c1 : w1.cell? ⟨B, 1, none⟩ = some (.int .i64 ii) := by rw [cell_of_row w1 B 1 _ _ _ B0.out]; rfl
  go_wp2_with (go_at_call 22; refine (nopen_any _).mono ?_; rintro e w' ⟨rfl, rfl⟩)
  refine (npget_any _ ii).mono ?_
  rintro e w2 ⟨rfl, t2⟩
  have t3 : Tch [] w2 (w2.alloc (.cells (secA (Arr.zero : Page)) 54)) := (Tch.refl _ _).alloc _
  have b3 : (w2.alloc (.cells (secA (Arr.zero : Page)) 54)).heap[w2.heap.size]? = some (.cells (secA (Arr.zero : Page)) 54) := heap_alloc_new _ _
  have T3 := Lib.hid ((T0.out.trans t2).trans t3)
  have B3 := Lib.hid (t3.heap (t2.heap B0.out (by simp)) (by simp))
  have TAB3 := Lib.hid ((TAB.out.touch t2 (by simp)).touch t3 (by simp))
  have X3 := Lib.hid b3
  clear t2 t3 b3 T0 B0 TAB c1
  go_upto_region 4 with (first | ((with_reducible refine wc_alloc_arr pageT ?_); go_frame; (try simp only [World.size_alloc])) | ((with_reducible apply wc_store_new pageT); exact rfl; exact rfl; go_frame))
  generalize w2.alloc (.cells (secA (Arr.zero : Page)) 54) = w3 at *
  generalize w2.heap.size = X at *
  clear w2
  have d1 : w3.cell? ⟨B, 1, none⟩ = some (.int .i64 ii) := by rw [cell_of_row w3 B 1 _ _ _ B3.out]; rfl
  have d2 : w3.cell? ⟨B, 2, none⟩ = some (.int .i64 nn) := by rw [cell_of_row w3 B 2 _ _ _ B3.out]; rfl
  go_upto_region 8 with (first | (go_at_call 12; refine (nptake_any _).mono ?_; rintro e w' ⟨rfl, rfl⟩) | (go_at_call 24; refine (nproot_any _ _).mono ?_; rintro e w' ⟨rfl, rfl⟩) | (go_at_call 25; refine (npchanged_any _).mono ?_; rintro e w' ⟨rfl, rfl⟩) | (go_at_call 11; refine (npfirst_any _).mono ?_; rintro e w' ⟨rfl, rfl⟩) | (go_at_call 16; refine (nppages_any _).mono ?_; rintro e w' ⟨rfl, rfl⟩) | (go_at_call 10; refine (npfree_any _).mono ?_; rintro e w' ⟨rfl, rfl⟩) | (go_at_call 26; refine (nptaken_any _ _).mono ?_; rintro e w' ⟨rfl, rfl⟩) | ((with_reducible apply wc_load_var pageT X3.out); exact rfl; go_frame) | ((with_reducible apply wc_build_arr pageT); exact rfl; go_frame) | ((with_reducible refine wc_eql_arr pageT (s := Arr.zero) (t := Arr.zero) ?_ ?_ ?_); exact rfl; exact rfl; rw [decide_eq_true rfl]; go_frame))
  go_wp2_with fail
  refine (nmake_any _).mono ?_
  rintro e w' ⟨rfl, rfl⟩
  go_wp2_with fail
  simp only [List.append_eq, List.nil_append]
  with_reducible apply wcg_load_var pageT X3.out
  · exact rfl
  · exact rfl
  go_frame
  go_wp2_with (first | ((with_reducible apply wcg_load_var pageT X3.out); exact rfl; exact rfl; go_frame) | (go_at_call 28; refine (npput_any _ _ _).mono ?_; rintro e w4 ⟨rfl, t4⟩; have T4 := Lib.hid (T3.out.trans t4); have TAB4 := Lib.hid (TAB3.out.touch t4 (by simp)); have e1 := cell_old t4 d1; have e2 := cell_old t4 d2; clear t4 d1 d2 T3 TAB3 X3) | (go_at_call 13; refine (npgive_any _ _).mono ?_; rintro e w' ⟨rfl, rfl⟩) | (go_at_call 29; refine (npsetRoot_any _ _ _).mono ?_; rintro e w' ⟨rfl, rfl⟩) | (go_at_call 18; refine (npcommit_any _).mono ?_; rintro e w' ⟨rfl, rfl⟩) | (go_at_call 19; refine (nprollback_any _).mono ?_; rintro e w' ⟨rfl, rfl⟩) | (go_at_call 14; refine (works9_any _ TAB4.out).mono ?_; rintro e w5 ⟨rfl, t5⟩; have T5 := Lib.hid (T4.out.trans t5); clear t5))
  go_ret
  exact ⟨rfl, T5.out⟩
end Go.Proofs.YtkjgbhpnlgcinaaGreatDoor
/-
  What the arguments of the statements of layer 8 read as is what their proofs ask of memory.
-/
namespace Go.Proofs.YtkjgbhpnlgcinaaGreatDoor
open Go.ChangeShapes Go.WideShapes Go.ChangeAt Go.RowKit Go.Cib

theorem own : ownKnob Tryz.prog.godebug = none := by kernel_rfl
theorem laidOut : laidOutB Tryz.prog = true := by kernel_rfl

section
variable {H : Type} {enc : TypeId × Value → H} {P : Program} {w : World}
theorem cells_get {base : Nat} {a : Addr} {n : Nat} {cs : List Value} (h : w.cells? base a n = some cs) : cs.length = n ∧ ∀ j v, cs[j]? = some v → w.cell? (a.add j) = some v := by
  obtain ⟨_, h2, h3⟩ := World.cells?_some h
  exact ⟨h2, fun j v hj => by rw [h3 j (by have := (List.getElem?_eq_some_iff.1 hj).1; omega), hj]⟩
theorem plain_addr {a : Addr} {v : Value} (h : w.cell? a = some v) : ∃ b o, a = ⟨b, o, none⟩ := by
  obtain ⟨b, o, s⟩ := a
  cases s with
  | none => exact ⟨b, o, rfl⟩
  | some x =>
    exfalso
    unfold World.cell? at h
    simp only [Option.isSome_some, if_true] at h
    split at h <;> simp at h
/-- A slice of integers. -/
theorem ints_of_trod {t e : TypeId} (ht : P.underlying t = some (.slice e)) (he : P.underlying e = some (.int .i64)) (hc : P.cellsOf e = 1) {fuel : Nat} {v : Value} {x : DataW H × List MemPlace} (h : DataW.trod enc P w 0 (fun _ => true) true fuel t [v] = some x) :
    ∃ (a : Option Addr) (l : List Int) (cap : Nat), v = .slice a l.length cap ∧ IntsAt w a l ∧ l.length ≤ maxLen ∧ (∀ n ∈ l, -9223372036854775808 ≤ n ∧ n ≤ 9223372036854775807) := by
  rcases open_ints ht he hc h with ⟨hcs, _⟩ | ⟨a, l, c, zs, hcs, _, hl, hm, hz, _, hcell, hwz⟩
  · simp at hcs
    exact ⟨none, [], 0, hcs, by intro j x hj; simp at hj, by simp, by simp⟩
  · simp at hcs
    have hlen : (zs.take l).length = l := by rw [List.length_take]; simp at hz; omega
    refine ⟨some a, zs.take l, c, by rw [hlen]; exact hcs, fun j x hj => ?_, by rw [hlen]; omega, fun n hn => ?_⟩
    · have hjl := (List.getElem?_eq_some_iff.1 hj).1
      rw [hlen] at hjl
      have hzj : zs[j]? = some x := by rw [List.getElem?_take, if_pos hjl] at hj; exact hj
      have hjz := (List.getElem?_eq_some_iff.1 hzj).1
      have hcj := hcell j hjz
      rw [List.getD_eq_getElem?_getD, hzj] at hcj
      obtain ⟨b, o, hbo⟩ := plain_addr hcj
      obtain ⟨b', o', s'⟩ := a
      by_cases hj0 : j = 0
      · subst hj0
        simp only [Addr.add, if_true] at hbo hcj
        rw [hbo] at hcj
        exact ⟨b, o, congrArg some hbo, by simpa using hcj⟩
      · have h0 := hcell 0 (by omega)
        obtain ⟨b0, o0, h00⟩ := plain_addr h0
        simp only [Addr.add, if_true] at h00
        cases h00
        rw [add_mk] at hcj
        exact ⟨_, _, rfl, hcj⟩
    · have := hwz n (List.mem_of_mem_take hn)
      simp only [Lit.wf, Bool.and_eq_true, decide_eq_true_eq] at this
      exact this
/-- A slice of texts. -/
theorem texts_of_trod {t e : TypeId} (ht : P.underlying t = some (.slice e)) (he : P.underlying e = some .string) (hc : P.cellsOf e = 1) {fuel : Nat} {v : Value} {x : DataW H × List MemPlace} (h : DataW.trod enc P w 0 (fun _ => true) true fuel t [v] = some x) :
    ∃ (a : Option Addr) (l : List ByteArray) (cap : Nat), v = .slice a l.length cap ∧ TextsAt w a l ∧ l.length ≤ maxLen ∧ ∀ s ∈ l, s.size ≤ maxLen := by
  rcases Deep.open_strs ht he hc h with ⟨hcs, _⟩ | ⟨a, len, cap, m, Sx, hcs, _, hl, hm, hmm, _, hel⟩
  · simp at hcs
    exact ⟨none, [], 0, hcs, by intro j x hj; simp at hj, by simp, by simp⟩
  · simp at hcs hmm
    refine ⟨some a, (List.range len).map Sx, cap, by simpa using hcs, fun j s hj => ?_, by simp; omega, fun s hs => ?_⟩
    · have hjl := (List.getElem?_eq_some_iff.1 hj).1
      simp only [List.length_map, List.length_range] at hjl
      have ho : Sx j = s := by simpa [hjl] using hj
      subst ho
      have hcj := (hel j (by omega)).1
      obtain ⟨b, o, hbo⟩ := plain_addr hcj
      obtain ⟨b', o', s'⟩ := a
      by_cases hj0 : j = 0
      · subst hj0
        simp only [Addr.add, if_true] at hbo hcj
        rw [hbo] at hcj
        exact ⟨b, o, congrArg some hbo, by simpa using hcj⟩
      · have h0 := (hel 0 (by omega)).1
        obtain ⟨b0, o0, h00⟩ := plain_addr h0
        simp only [Addr.add, if_true] at h00
        cases h00
        rw [add_mk] at hcj
        exact ⟨_, _, rfl, hcj⟩
    · obtain ⟨j, hj, rfl⟩ := List.mem_map.1 hs
      exact (hel j (by have := List.mem_range.1 hj; omega)).2
end

section
variable {H : Type} {enc : TypeId × Value → H} {w : World}
theorem cellsInt : Tryz.prog.cellsOf 3 = 1 := by kernel_rfl
theorem cellsStr : Tryz.prog.cellsOf 9 = 1 := by kernel_rfl
theorem cellsInts : Tryz.prog.cellsOf 22 = 1 := by kernel_rfl
end
end Go.Proofs.YtkjgbhpnlgcinaaGreatDoor
/-
  What the arguments of the statements of layer 9 read as is what their proofs ask of memory.
-/
namespace Go.Proofs.YtkjgbhpnlgcinaaGreatDoor
open Go.ChangeShapes Go.WideShapes Go.ChangeAt Go.RowKit Go.Cib
structure Op9V where
  what : Int
  i : Int
  n : Int
  text : ByteArray
  ka : Option Addr
  kcap : Nat
  keep : List Int
abbrev Op9V.val (o : Op9V) : Array Value := #[.int .i64 o.what, .int .i64 o.i, .int .i64 o.n, .string o.text, .slice o.ka o.keep.length o.kcap]
abbrev Op9V.cells (o : Op9V) : Obj := .cells o.val 46
/-- What holds of an op, wherever it lies. -/
structure Op9Ok (w : World) (o : Op9V) : Prop where
  keep : IntsAt w o.ka o.keep
  len : o.keep.length ≤ maxLen
  txt : o.text.size ≤ maxLen
  ilo : -9223372036854775808 ≤ o.i
  ihi : o.i ≤ 9223372036854775807
  nlo : -9223372036854775808 ≤ o.n
  nhi : o.n ≤ 9223372036854775807
def Op9At (w : World) (b off : Nat) (o : Op9V) : Prop := (∀ j v, o.val[j]? = some v → w.cell? ⟨b, off + j, none⟩ = some v) ∧ Op9Ok w o
def Ops9At (w : World) (a : Option Addr) (os : List Op9V) : Prop :=
  ∀ (j : Nat) (o : Op9V), os[j]? = some o → ∃ b off, a = some ⟨b, off, none⟩ ∧ Op9At w b (off + j * 5) o
theorem Op9Ok.later {w w' : World} {o : Op9V} (h : Op9Ok w o) (ht : Tch [] w w') : Op9Ok w' o := ⟨h.keep.touch ht (by simp), h.len, h.txt, h.ilo, h.ihi, h.nlo, h.nhi⟩
theorem Op9At.later {w w' : World} {b off : Nat} {o : Op9V} (h : Op9At w b off o) (ht : Tch [] w w') : Op9At w' b off o := ⟨fun j v hj => cell_old ht (h.1 j v hj), h.2.later ht⟩
theorem Ops9At.later {w w' : World} {a : Option Addr} {os : List Op9V} (h : Ops9At w a os) (ht : Tch [] w w') : Ops9At w' a os := fun j o hj => by
  obtain ⟨b, off, h1, h2⟩ := h j o hj
  exact ⟨b, off, h1, h2.later ht⟩
theorem box9 {w : World} {X : Nat} {o : Op9V} (h : w.heap[X]? = some o.cells) : ∀ j v, o.val[j]? = some v → w.cell? ⟨X, j, none⟩ = some v := fun j v hj => by
  rw [cell_of_row w X j _ _ _ h]; exact hj
section
variable {H : Type} {enc : TypeId × Value → H} {w : World}
theorem cellsPlace9 : Tryz.prog.cellsOf 28 = 2 := by kernel_rfl
theorem cellsOp9 : Tryz.prog.cellsOf 46 = 5 := by kernel_rfl
set_option maxRecDepth 20000 in
theorem place9_of_trod {fuel : Nat} {cs : List Value} {x : DataW H × List MemPlace} (h : DataW.trod enc Tryz.prog w 0 (fun _ => true) true fuel 28 cs = some x) :
    ∃ (s l : Int), cs = [.int .i64 s, .int .i64 l] ∧ (-9223372036854775808 ≤ s ∧ s ≤ 9223372036854775807) ∧ -9223372036854775808 ≤ l ∧ l ≤ 9223372036854775807 := by
  obtain ⟨xs, n, _, _, hl, hlen, hf⟩ := DataW.trod_struct Tryz.underlying28 h
  rw [cellsPlace9] at hl
  match xs, hlen with
  | [y0, y1], _ =>
    match cs, hl with
    | [v0, v1], _ =>
      have g0 : DataW.trod enc Tryz.prog w 0 (fun _ => true) true n 3 [v0] = some y0 := by simpa [cellsInt] using hf 0 _ rfl
      have g1 : DataW.trod enc Tryz.prog w 0 (fun _ => true) true n 3 [v1] = some y1 := by simpa [cellsInt] using hf 1 _ rfl
      obtain ⟨a0, e0, _, w0⟩ := DataW.trod_int Tryz.underlying3 g0
      obtain ⟨a1, e1, _, w1⟩ := DataW.trod_int Tryz.underlying3 g1
      simp only [List.cons.injEq, and_true] at e0 e1
      subst e0 e1
      simp only [Lit.wf, Bool.and_eq_true, decide_eq_true_eq] at w0 w1
      exact ⟨a0, a1, rfl, w0, w1⟩
set_option maxRecDepth 20000 in
/-- One op, with its bounds. -/
theorem op9_of_trod {fuel : Nat} {cs : List Value} {x : DataW H × List MemPlace} (h : DataW.trod enc Tryz.prog w 0 (fun _ => true) true fuel 46 cs = some x) :
    ∃ o : Op9V, cs = o.val.toList ∧ Op9Ok w o := by
  obtain ⟨xs, n, _, _, hl, hlen, hf⟩ := DataW.trod_struct Tryz.underlying46 h
  rw [cellsOp9] at hl
  match xs, hlen with
  | [y0, y1, y2, y3, y4], _ =>
    match cs, hl with
    | [v0, v1, v2, v3, v4], _ =>
      have g0 : DataW.trod enc Tryz.prog w 0 (fun _ => true) true n 3 [v0] = some y0 := by simpa [cellsInt] using hf 0 _ rfl
      have g1 : DataW.trod enc Tryz.prog w 0 (fun _ => true) true n 3 [v1] = some y1 := by simpa [cellsInt] using hf 1 _ rfl
      have g2 : DataW.trod enc Tryz.prog w 0 (fun _ => true) true n 3 [v2] = some y2 := by simpa [cellsInt] using hf 2 _ rfl
      have g3 : DataW.trod enc Tryz.prog w 0 (fun _ => true) true n 9 [v3] = some y3 := by simpa [cellsStr] using hf 3 _ rfl
      have g4 : DataW.trod enc Tryz.prog w 0 (fun _ => true) true n 22 [v4] = some y4 := by simpa [cellsInts] using hf 4 _ rfl
      obtain ⟨a0, e0, _, _⟩ := DataW.trod_int Tryz.underlying3 g0
      obtain ⟨a1, e1, _, w1⟩ := DataW.trod_int Tryz.underlying3 g1
      obtain ⟨a2, e2, _, w2⟩ := DataW.trod_int Tryz.underlying3 g2
      obtain ⟨a3, e3, _, w3⟩ := DataW.trod_string Tryz.underlying9 g3
      obtain ⟨a4, l4, c4, e4, h4, h5, _⟩ := ints_of_trod Tryz.underlying22 Tryz.underlying3 cellsInt g4
      simp only [List.cons.injEq, and_true] at e0 e1 e2 e3
      subst e0 e1 e2 e3 e4
      simp only [Lit.wf, Bool.and_eq_true, decide_eq_true_eq] at w1 w2
      exact ⟨⟨a0, a1, a2, a3, a4, c4, l4⟩, rfl, ⟨h4, h5, by first | exact w3 | simpa [Lit.wf] using w3, w1.1, w1.2, w2.1, w2.2⟩⟩
/-- A script. -/
theorem ops9_of_trod {fuel : Nat} {v : Value} {x : DataW H × List MemPlace} (h : DataW.trod enc Tryz.prog w 0 (fun _ => true) true fuel 37 [v] = some x) :
    ∃ (a : Option Addr) (os : List Op9V) (cap : Nat), v = .slice a os.length cap ∧ Ops9At w a os ∧ os.length ≤ maxLen ∧ os.length ≤ cap := by
  rcases Deep.open_slice Tryz.underlying37 h with ⟨hcs, _⟩ | ⟨a, len, cap, m, n, D, Pl, hcs, _, hl, hm, hmm, _, hel⟩
  · simp at hcs
    exact ⟨none, [], 0, hcs, by intro j x hj; simp at hj, by simp, Nat.le_refl _⟩
  · simp at hcs hmm
    rw [cellsOp9] at hel
    have hall : ∀ i, i < len → ∃ o : Op9V, w.cells? 0 (a.add (i * 5)) 5 = some o.val.toList ∧ Op9Ok w o := by
      intro i hi
      obtain ⟨cs', h1, h2⟩ := hel i (by omega)
      obtain ⟨o, rfl, h3⟩ := op9_of_trod h2
      exact ⟨o, h1, h3⟩
    haveI : Inhabited Op9V := ⟨⟨0, 0, 0, ByteArray.empty, none, 0, []⟩⟩
    obtain ⟨f, hf⟩ := Deep.choose_lt hall
    refine ⟨some a, (List.range len).map f, cap, by simpa using hcs, fun j o hj => ?_, by simp; omega, by simp; omega⟩
    have hjl := (List.getElem?_eq_some_iff.1 hj).1
    simp only [List.length_map, List.length_range] at hjl
    have ho : f j = o := by simpa [hjl] using hj
    obtain ⟨h1, h3⟩ := hf j hjl
    rw [ho] at h1 h3
    obtain ⟨_, hc⟩ := cells_get h1
    obtain ⟨b, off, hba⟩ : ∃ b off, a = ⟨b, off, none⟩ := by
      have h0 := hc 0 (.int .i64 o.what) rfl
      obtain ⟨b, o', hbo⟩ := plain_addr h0
      obtain ⟨b', o'', s'⟩ := a
      by_cases hj0 : j = 0
      · subst hj0
        simp [Addr.add] at hbo
        exact ⟨b', o'', by simp [hbo.2.2]⟩
      · obtain ⟨h1', _⟩ := hf 0 (by omega)
        obtain ⟨_, hc'⟩ := cells_get h1'
        have h00 := hc' 0 (.int .i64 (f 0).what) rfl
        obtain ⟨b2, o2, hbo2⟩ := plain_addr h00
        simp [Addr.add] at hbo2
        exact ⟨b', o'', by simp [hbo2.2.2]⟩
    subst hba
    refine ⟨b, off, rfl, fun k v hk => ?_, h3⟩
    have := hc k v (by rw [Array.getElem?_toList]; exact hk)
    rw [add_mk, add_mk] at this
    exact this
end
end Go.Proofs.YtkjgbhpnlgcinaaGreatDoor
/-
  The table of package math/bits that the rows of layer 9 list: from the rows' condition to what the walks ask; a world that meets it.
-/
namespace Go.Proofs.YtkjgbhpnlgcinaaGreatDoor
open Go.RowKit Go.Cib
theorem door_gT : Tryz.prog.globalNamed "math/bits.deBruijn64tab" = some 0 := by kernel_rfl
theorem door_gType : (Tryz.prog.globals[0]?).map (·.type) = some 150 := by kernel_rfl
theorem door_tab : (Rows.laid_math_bits_deBruijn64tab : DataW Unit) = Lib.tabData .u8 (deBruijn.map fun (x : Nat) => (x : Int)) := by
  unfold Rows.laid_math_bits_deBruijn64tab Lib.tabData deBruijn
  rfl
theorem tab_of_laid {W : World} (h : laidMetH Tryz.prog [("math/bits.deBruijn64tab", Rows.laid_math_bits_deBruijn64tab)] W) : Tab W := by
  rw [door_tab] at h
  have hm : laidMet Tryz.prog [("math/bits.deBruijn64tab", Lib.tabData .u8 (deBruijn.map fun (x : Nat) => (x : Int)))] W := h
  have ht := Lib.tabIs_of_head door_gT door_gType Tryz.underlying150 Tryz.underlying5 (by kernel_rfl) (by kernel_rfl) hm
  intro i x hi
  have hl := (List.getElem?_eq_some_iff.1 hi).1
  have := ht.cell door_gT i (by simpa using hl)
  rw [this]
  congr 2
  rw [List.getD_eq_getElem?_getD, List.getElem?_map, hi]
  rfl
/-- The settled world, the table laid. -/
noncomputable def doorWorld (os : Os) : World :=
  { World.holding Tryz.prog os ⟨#[], #[], []⟩ with heap := (World.holding Tryz.prog os ⟨#[], #[], []⟩).heap.modify 0 fun
      | .cells _ t frozen => .cells (deBruijn.map fun (z : Nat) => Value.int .u8 (z : Int)).toArray t frozen
      | o => o }
theorem door_met (os : Os) (args : Array Value) : laidMetH Tryz.prog [("math/bits.deBruijn64tab", Rows.laid_math_bits_deBruijn64tab)] ((doorWorld os).forCall (fun _ _ => 0) ⟨#[], args, []⟩).memory :=
  laidMetH_of_parts (laidMet_of_run' 8 (by kernel_rfl) (by kernel_rfl)) (by kernel_rfl)
end Go.Proofs.YtkjgbhpnlgcinaaGreatDoor
/-
  What a holder of pages knows: plain; and in memory (ciboriumlaw09.world).
-/
namespace Go.Cib
open Go Go.RowKit
structure HoldS where
  have_ : List Bool
  pages : List Page
  roots : Nat → Nat
namespace HoldS
/-- The pages are as they are known to be. -/
structure Knows (W : HoldS) (P : PgS) (base : Nat → Page) : Prop where
  l1 : W.have_.length = P.pages
  l2 : W.pages.length = P.pages
  tk : ∀ n, 2 ≤ n → n < P.pages → W.have_[n]? = some (P.now.taken n)
  pg : ∀ n, 2 ≤ n → n < P.pages → P.now.taken n = true → W.pages[n]? = some (P.cur base n)
  rt : ∀ i, i < 8 → W.roots i = P.now.roots i
variable {W : HoldS} {P : PgS} {base : Nat → Page}
def took (W : HoldS) (k : Nat) : HoldS := ⟨W.have_.set k true, W.pages.set k Arr.zero, W.roots⟩
def wrote (W : HoldS) (k : Nat) (x : Page) : HoldS := ⟨W.have_, W.pages.set k x, W.roots⟩
def gave (W : HoldS) (k : Nat) : HoldS := ⟨W.have_.set k false, W.pages, W.roots⟩
def rooted (W : HoldS) (i n : Nat) : HoldS := ⟨W.have_, W.pages, fun k => if k = i then n else W.roots k⟩
theorem get_set {α : Type} (l : List α) (k n : Nat) (x : α) (h : k < l.length) : (l.set k x)[n]? = if n = k then some x else l[n]? := by
  rw [List.getElem?_set]
  by_cases e : k = n
  · subst e; rw [if_pos rfl, if_pos rfl, if_pos h]
  · rw [if_neg e, if_neg (Ne.symm e)]
theorem Knows.take (h : W.Knows P base) {m : Nat} (hm : m < P.pages) : (W.took m).Knows { P with now := P.now.set m true, over := fun j => if j = (m : Int) then some Arr.zero else P.over j } base := by
  refine ⟨by rw [← h.l1]; exact List.length_set .., by rw [← h.l2]; exact List.length_set .., fun n h2 hn => ?_, fun n h2 hn ht => ?_, h.rt⟩
  · show (W.have_.set m true)[n]? = some (if n = m then true else P.now.taken n)
    rw [get_set _ _ _ _ (by rw [h.l1]; exact hm)]
    by_cases e : n = m
    · rw [if_pos e, if_pos e]
    · rw [if_neg e, if_neg e]; exact h.tk n h2 hn
  · show (W.pages.set m Arr.zero)[n]? = some ((if (n : Int) = (m : Int) then some Arr.zero else P.over n).getD (base n))
    rw [get_set _ _ _ _ (by rw [h.l2]; exact hm)]
    by_cases e : n = m
    · rw [if_pos e, if_pos (by omega)]; rfl
    · rw [if_neg e, if_neg (by omega)]
      refine h.pg n h2 hn ?_
      have : (if n = m then true else P.now.taken n) = true := ht
      rwa [if_neg e] at this
theorem Knows.put (h : W.Knows P base) {n : Nat} (hn : n < P.pages) (x : Page) : (W.wrote n x).Knows { P with over := fun j => if j = (n : Int) then some x else P.over j } base := by
  refine ⟨h.l1, by rw [← h.l2]; exact List.length_set .., h.tk, fun k h2 hk ht => ?_, h.rt⟩
  show (W.pages.set n x)[k]? = some ((if (k : Int) = (n : Int) then some x else P.over k).getD (base k))
  rw [get_set _ _ _ _ (by rw [h.l2]; exact hn)]
  by_cases e : k = n
  · rw [if_pos e, if_pos (by omega)]; rfl
  · rw [if_neg e, if_neg (by omega)]; exact h.pg k h2 hk ht
theorem Knows.give (h : W.Knows P base) {m : Nat} (hm : m < P.pages) : (W.gave m).Knows { P with now := P.now.set m false, over := fun j => if j = (m : Int) then none else P.over j } base := by
  refine ⟨by rw [← h.l1]; exact List.length_set .., h.l2, fun n h2 hn => ?_, fun n h2 hn ht => ?_, h.rt⟩
  · show (W.have_.set m false)[n]? = some (if n = m then false else P.now.taken n)
    rw [get_set _ _ _ _ (by rw [h.l1]; exact hm)]
    by_cases e : n = m
    · rw [if_pos e, if_pos e]
    · rw [if_neg e, if_neg e]; exact h.tk n h2 hn
  · have hne : n ≠ m := fun e => by
      have : (if n = m then false else P.now.taken n) = true := ht
      rw [if_pos e] at this; cases this
    show W.pages[n]? = some ((if (n : Int) = (m : Int) then none else P.over n).getD (base n))
    rw [if_neg (by omega)]
    refine h.pg n h2 hn ?_
    have : (if n = m then false else P.now.taken n) = true := ht
    rwa [if_neg hne] at this
theorem Knows.root (h : W.Knows P base) (i n : Nat) : (W.rooted i n).Knows { P with now := P.now.setRoot i n } base := by
  refine ⟨h.l1, h.l2, h.tk, fun k h2 hk ht => h.pg k h2 hk ht, fun k hk => ?_⟩
  show (if k = i then n else W.roots k) = if k = i then n else P.now.roots k
  rw [h.rt k hk]
/-- Behind a Commit, and behind an opening. -/
theorem Knows.kept (h : W.Knows P base) {P2 : PgS} {base2 : Nat → Page} (hp : P2.pages = P.pages) (hn : P2.now = P.now) (ho : P2.over = fun _ => none) (hb : ∀ n, 2 ≤ n → base2 n = P.cur base n) : W.Knows P2 base2 := by
  refine ⟨h.l1.trans hp.symm, h.l2.trans hp.symm, fun n h2 hk => ?_, fun n h2 hk ht => ?_, fun i hi => ?_⟩
  · rw [hn]; exact h.tk n h2 (by omega)
  · rw [hn] at ht
    rw [h.pg n h2 (by omega) ht]
    unfold PgS.cur
    rw [ho]
    show some ((P.over n).getD (base n)) = some (base2 n)
    rw [hb n h2]; rfl
  · rw [hn]; exact h.rt i hi
theorem next_cur (P : PgS) (base : Nat → Page) {n : Nat} (h : 2 ≤ n) : P.next base n = P.cur base n := by
  unfold PgS.next; rw [if_neg (by omega), if_neg (by omega)]
end HoldS
theorem PgS.cur_none {P : PgS} {base : Nat → Page} (h : P.over = fun _ => none) (n : Nat) : P.cur base n = base n := by unfold PgS.cur; rw [h]; rfl
theorem SecsIn.lt9 {m : Nat} {w : World} {b : Nat} {ls : List (Arr m)} (h : SecsIn w b ls) : b < w.heap.size := by
  obtain ⟨cur, e, h1, _⟩ := h
  exact lt_of_heap h1
def rootsV (r : Nat → Nat) : Array Value := ((List.range 8).map fun i => Value.int .i64 (r i)).toArray
theorem rootsV_get (r : Nat → Nat) {i : Nat} (h : i < 8) : (rootsV r)[i]? = some (.int .i64 (r i)) := by simp [rootsV, h]
theorem size_rootsV (r : Nat → Nat) : (rootsV r).size = 8 := by simp [rootsV]
def worldA (hb hc pb pc n : Nat) (r : Nat → Nat) : Array Value := #[.slice (some ⟨hb, 0, none⟩) n hc, .slice (some ⟨pb, 0, none⟩) n pc] ++ rootsV r
theorem size_worldA (hb hc pb pc n : Nat) (r : Nat → Nat) : (worldA hb hc pb pc n r).size = 10 := by unfold worldA; rw [Array.size_append, size_rootsV]; rfl
theorem worldA_root (hb hc pb pc n : Nat) (r : Nat → Nat) {i : Nat} (h : i < 8) : (worldA hb hc pb pc n r)[2 + i]? = some (.int .i64 (r i)) := by
  unfold worldA
  rw [Array.getElem?_append_right (by simp)]
  simp only [List.size_toArray, List.length_cons, List.length_nil, Nat.zero_add, Nat.reduceAdd]
  rw [show 2 + i - 2 = i by omega]
  exact rootsV_get r h
theorem worldA_set (hb hc pb pc n : Nat) (r : Nat → Nat) {i : Nat} (h : i < 8) (m : Nat) : (worldA hb hc pb pc n r).setIfInBounds (2 + i) (.int .i64 m) = worldA hb hc pb pc n (fun k => if k = i then m else r k) := by
  apply Array.ext_getElem?
  intro j
  rw [Array.getElem?_setIfInBounds]
  by_cases e : 2 + i = j
  · subst e
    rw [if_pos rfl, if_pos (by rw [size_worldA]; omega), worldA_root _ _ _ _ _ _ h, if_pos rfl]
  · rw [if_neg e]
    by_cases hj : j < 2
    · unfold worldA
      rw [Array.getElem?_append_left (by simpa using hj), Array.getElem?_append_left (by simpa using hj)]
    · by_cases hj2 : j < 10
      · obtain ⟨k, rfl⟩ : ∃ k, j = 2 + k := ⟨j - 2, by omega⟩
        rw [worldA_root _ _ _ _ _ _ (show k < 8 by omega), worldA_root _ _ _ _ _ _ (show k < 8 by omega), if_neg (by omega)]
      · rw [Array.getElem?_eq_none (by rw [size_worldA]; omega), Array.getElem?_eq_none (by rw [size_worldA]; omega)]
end Go.Cib
namespace Go.Proofs.YtkjgbhpnlgcinaaGreatDoor
open Go.RowKit Go.Cib
/-- Bools, in a row that may have room for more. -/
def BoolsIn (w : World) (b : Nat) (bs : List Bool) : Prop := ∃ cur, w.heap[b]? = some (.cells cur 4) ∧ bs.length ≤ cur.size ∧ ∀ (j : Nat) (x : Bool), bs[j]? = some x → cur[j]? = some (Value.bool x)
theorem BoolsIn.touch {w w' : World} {b : Nat} {bs : List Bool} {S : List Nat} (h : BoolsIn w b bs) (ht : Tch S w w') (hn : b ∉ S) : BoolsIn w' b bs := by
  obtain ⟨cur, h1, h2, h3⟩ := h
  exact ⟨cur, ht.heap h1 hn, h2, h3⟩
theorem BoolsIn.cell {w : World} {b : Nat} {bs : List Bool} (h : BoolsIn w b bs) {j : Nat} {x : Bool} (hj : bs[j]? = some x) : w.cell? ⟨b, j, none⟩ = some (.bool x) := by
  obtain ⟨cur, h1, h2, h3⟩ := h
  rw [cell_of_row w b j _ _ _ h1]; exact h3 j x hj
theorem BoolsIn.froz {w : World} {b : Nat} {bs : List Bool} (h : BoolsIn w b bs) (j : Nat) : w.frozen? ⟨b, j, none⟩ = false := by
  obtain ⟨cur, h1, _⟩ := h
  exact frozen_of_row w b j _ _ h1
theorem BoolsIn.lt {w : World} {b : Nat} {bs : List Bool} (h : BoolsIn w b bs) : b < w.heap.size := by
  obtain ⟨cur, h1, _⟩ := h
  exact lt_of_heap h1
theorem BoolsIn.mark {w : World} {b : Nat} {bs : List Bool} (h : BoolsIn w b bs) (i : Nat) (x : Bool) : BoolsIn (w.setCell ⟨b, i, none⟩ (.bool x)) b (bs.set i x) := by
  obtain ⟨cur, h1, h2, h3⟩ := h
  refine ⟨cur.setIfInBounds i (.bool x), heap_setCell_cells h1 _ _, by simpa using h2, fun j y hj => ?_⟩
  rw [List.getElem?_set] at hj
  rw [Array.getElem?_setIfInBounds]
  by_cases e : i = j
  · rw [if_pos e] at hj ⊢
    by_cases hi : i < bs.length
    · rw [if_pos hi] at hj
      cases hj
      rw [if_pos (by omega)]
    · rw [if_neg hi] at hj; cases hj
  · rw [if_neg e] at hj ⊢
    exact h3 j y hj
theorem boolsIn_made {w : World} {n : Nat} {b : Nat} (h : w.heap[b]? = some (.cells (boolsA (List.replicate n false)) 4)) : BoolsIn w b (List.replicate n false) :=
  ⟨_, h, by simp, fun j x hj => by rw [boolsA_get, hj]; rfl⟩
/-- A world in memory. -/
structure WAt (w : World) (x hb hc pb pc n : Nat) (W : HoldS) : Prop where
  hx : w.heap[x]? = some (.cells (worldA hb hc pb pc n W.roots) 43)
  hh : BoolsIn w hb W.have_
  hp : SecsIn w pb W.pages
  l1 : W.have_.length = n
  l2 : W.pages.length = n
  n1 : x ≠ hb
  n2 : x ≠ pb
  n3 : hb ≠ pb
namespace WAt
variable {w w' : World} {x hb hc pb pc n : Nat} {W : HoldS}
theorem touch {S : List Nat} (h : WAt w x hb hc pb pc n W) (ht : Tch S w w') (h1 : x ∉ S) (h2 : hb ∉ S) (h3 : pb ∉ S) : WAt w' x hb hc pb pc n W :=
  ⟨ht.heap h.hx h1, h.hh.touch ht h2, h.hp.touch ht h3, h.l1, h.l2, h.n1, h.n2, h.n3⟩
theorem old (h : WAt w x hb hc pb pc n W) (ht : Tch [] w w') : WAt w' x hb hc pb pc n W := h.touch ht (by simp) (by simp) (by simp)
theorem c0 (h : WAt w x hb hc pb pc n W) : w.cell? ⟨x, 0, none⟩ = some (.slice (some ⟨hb, 0, none⟩) n hc) := by
  rw [cell_of_row w x 0 _ _ _ h.hx]; rfl
theorem c1 (h : WAt w x hb hc pb pc n W) : w.cell? ⟨x, 1, none⟩ = some (.slice (some ⟨pb, 0, none⟩) n pc) := by
  rw [cell_of_row w x 1 _ _ _ h.hx]; rfl
theorem cR (h : WAt w x hb hc pb pc n W) {i : Nat} (hi : i < 8) : w.cell? ⟨x, 2 + i, none⟩ = some (.int .i64 (W.roots i)) := by
  rw [cell_of_row w x (2 + i) _ _ _ h.hx, worldA_root _ _ _ _ _ _ hi]
theorem lt (h : WAt w x hb hc pb pc n W) : x < w.heap.size ∧ hb < w.heap.size ∧ pb < w.heap.size := ⟨lt_of_heap h.hx, h.hh.lt, h.hp.lt9⟩
/-- A page is had now, or is not any more. -/
theorem mark (h : WAt w x hb hc pb pc n W) (k : Nat) (b : Bool) : WAt (w.setCell ⟨hb, k, none⟩ (.bool b)) x hb hc pb pc n ⟨W.have_.set k b, W.pages, W.roots⟩ := by
  have t : Tch [hb] w (w.setCell ⟨hb, k, none⟩ (.bool b)) := (Tch.refl _ _).setCell (by simp) _
  exact ⟨t.heap h.hx (by simp [h.n1]), h.hh.mark k b, h.hp.touch t (by simp [Ne.symm h.n3]), by rw [← h.l1]; exact List.length_set .., h.l2, h.n1, h.n2, h.n3⟩
/-- A page stands there. -/
theorem wrote (h : WAt w x hb hc pb pc n W) {k : Nat} {y : Page} (hs : SecsIn w' pb (W.pages.set k y)) (ht : Tch [pb] w w') : WAt w' x hb hc pb pc n ⟨W.have_, W.pages.set k y, W.roots⟩ :=
  ⟨ht.heap h.hx (by simp [h.n2]), h.hh.touch ht (by simp [h.n3]), hs, h.l1, by rw [← h.l2]; exact List.length_set .., h.n1, h.n2, h.n3⟩
/-- A root. -/
theorem rooted (h : WAt w x hb hc pb pc n W) {i : Nat} (hi : i < 8) (m : Nat) : WAt (w.setCell ⟨x, 2 + i, none⟩ (.int .i64 m)) x hb hc pb pc n (W.rooted i m) := by
  have t : Tch [x] w (w.setCell ⟨x, 2 + i, none⟩ (.int .i64 m)) := (Tch.refl _ _).setCell (by simp) _
  refine ⟨?_, h.hh.touch t (by simp [Ne.symm h.n1]), h.hp.touch t (by simp [Ne.symm h.n2]), h.l1, h.l2, h.n1, h.n2, h.n3⟩
  rw [heap_setCell_cells h.hx, worldA_set _ _ _ _ _ _ hi]
  rfl
end WAt
end Go.Proofs.YtkjgbhpnlgcinaaGreatDoor
/-
  A holder's world in memory: what is asked of it, and its copy: (*ciboriumlaw09.world).twin.
-/
namespace Go.Cib
open Go Go.RowKit
section
variable {P : Program} {ops : Array Oper} {rest : List Oper} {a : Act} {w : World} {Q : Exit → Act → World → Prop} {dst : Option Tmp} {ty : TypeId} {pos : String} {af : Array Edge} {x y : Operand} {gd : Option (Nat × Bool)}
/-- 'append(nil, l...)' of a row that is not empty. -/
theorem exec_append_nil {t e : TypeId} {i : TypeInfo} {z : Value} {size : Nat} (ht : P.underlying t = some (.slice e)) (hi : P.info? e = some i) (hz : i.zero = some z) (hsize : i.size = size) (hby : i.bytes ≤ 512) (hzs : z.cells.size = size) (hsz : 0 < size)
    {b m c : Nat} {news : List Value} (hl : news.length = m * size) (hnews : ∀ j u, news[j]? = some u → w.cell? ⟨b, j, none⟩ = some u) (h1 : ∀ u ∈ news, u.oneCell' = true) (hm : m ≤ 100000) (hm0 : 0 < m)
    (hx : a.eval x = .slice none 0 0) (hy : a.eval y = .slice (some ⟨b, 0, none⟩) m c) :
    ∃ v' w', (∀ (dst : Option Tmp) (pos : String) (af : Array Edge) (gd : Option (Nat × Bool)), (execOp a.eval ⟨dst, .call { callee := .builtin .append, args := #[x, y], argTypes := #[t, t] }, ty, pos, af, gd⟩).run P w = .ok (.value v') w') ∧ Tch [] w w' ∧
      ∃ g cap cur, v' = .slice (some ⟨g, 0, none⟩) m cap ∧ w.heap.size ≤ g ∧ w'.heap[g]? = some (.cells cur e) ∧ m * size ≤ cur.size ∧ cur.toList.take (m * size) = news := by
  obtain ⟨v', w', hr, hown, hgr, _, _⟩ := run_append_own_at (P := P) w w.heap.size t ty e i z size i.bytes ht hi hz hsize rfl hzs hsz (.slice none 0 0) 0 [] (World.ownsRow_nil w _ e size) ⟨b, 0, none⟩ m c news hl
    (fun j u hj => by rw [add_mk, Nat.zero_add]; exact hnews j u hj) h1 (by unfold maxLen; omega) (by have := Nat.mul_le_mul hm hby; rw [Nat.zero_add]; omega) (Nat.le_refl _)
  refine ⟨v', w', ?_, Tch.of_grown hgr (by intro k hk; simp [Value.ownBlock] at hk), ?_⟩
  · intro dst pos af gd
    unfold execOp
    simp only [resolve, invoke, builtin, Sem.run_bind, Sem.run_pure, Result.andThen_ok, List.map_toArray, List.map_cons, List.map_nil, hx, hy, hr]
  · obtain ⟨h2, h3⟩ := hown
    rw [Nat.zero_add, List.nil_append] at h3 h2
    rcases h3 with ⟨_, h4⟩ | ⟨g, cap, cur, h4, h5, h6, h7, h8, h9, h10⟩
    · omega
    · exact ⟨g, cap, cur, h4, h5, h6, by rw [h9]; exact Nat.mul_le_mul_right _ h7, h10⟩
end
end Go.Cib
namespace Go.Proofs.YtkjgbhpnlgcinaaGreatDoor
open Go.RowKit Go.Cib
theorem exec_append_bools {a : Act} {w : World} {ty : TypeId} {x y : Operand} {b n c : Nat} {bs : List Bool} (hl : bs.length = n) (hn : 3 ≤ n ∧ n ≤ 4000) (h : BoolsIn w b bs)
    (hx : a.eval x = .slice none 0 0) (hy : a.eval y = .slice (some ⟨b, 0, none⟩) n c) :
    ∃ v' w', (∀ (dst : Option Tmp) (pos : String) (af : Array Edge) (gd : Option (Nat × Bool)), (execOp a.eval ⟨dst, .call { callee := .builtin .append, args := #[x, y], argTypes := #[33, 33] }, ty, pos, af, gd⟩).run Tryz.prog w = .ok (.value v') w') ∧
      ∃ g cap, v' = .slice (some ⟨g, 0, none⟩) n cap ∧ w.heap.size ≤ g ∧ BoolsIn w' g bs ∧ Tch [] w w' := by
  obtain ⟨i, hi, hi2⟩ := Option.map_eq_some_iff.1 infoBool1
  simp only [Prod.mk.injEq] at hi2
  obtain ⟨v', w', hr, ht, g, cap, cur, h4, h5, h6, h7, h8⟩ := exec_append_nil (P := Tryz.prog) (w := w) (a := a) (ty := ty) (x := x) (y := y) (c := c) (m := n) (b := b) (news := bs.map Value.bool) uBools9 hi hi2.1 hi2.2.1 (by rw [hi2.2.2]; decide) rfl (by decide) (by simp [hl])
    (fun j u hj => by
      rw [List.getElem?_map] at hj
      obtain ⟨q, hq, rfl⟩ := Option.map_eq_some_iff.1 hj
      exact h.cell hq) (fun u hu => by obtain ⟨q, _, rfl⟩ := List.mem_map.1 hu; rfl) (by omega) (by omega) hx hy
  refine ⟨v', w', hr, g, cap, h4, h5, ⟨cur, h6, by rw [hl]; omega, fun j q hj => ?_⟩, ht⟩
  have hjl := (List.getElem?_eq_some_iff.1 hj).1
  have e : (cur.toList.take (n * 1))[j]? = (bs.map Value.bool)[j]? := by rw [h8]
  rw [List.getElem?_take, if_pos (by omega), Array.getElem?_toList, List.getElem?_map, hj] at e
  exact e
theorem uPages9 : Tryz.prog.underlying 40 = some (.slice 54) := by kernel_rfl
theorem SecsIn.cell9 {w : World} {b : Nat} {ls : List Page} (h : SecsIn w b ls) {j : Nat} {u : Value} (hj : (secsA ls).toList[j]? = some u) : w.cell? ⟨b, j, none⟩ = some u := by
  obtain ⟨cur, e, h1, h2, h3⟩ := h
  have hlt : j < (secsA ls).size := by simpa using (List.getElem?_eq_some_iff.1 hj).1
  rw [size_secsA] at hlt
  rw [cell_of_row w b j _ _ _ h1]
  rw [← h3, Array.getElem?_toList, Array.getElem?_extract] at hj
  rw [if_pos (by omega), Nat.zero_add] at hj
  exact hj
theorem zero_cells (n : Nat) : (Value.agg (bytesA (List.replicate n 0))).cells.size = n := by simp [Value.cells]
theorem exec_append_pages {a : Act} {w : World} {ty : TypeId} {x y : Operand} {b n c : Nat} {ls : List Page} (hl : ls.length = n) (hn : 3 ≤ n ∧ n ≤ 4000) (h : SecsIn w b ls)
    (hx : a.eval x = .slice none 0 0) (hy : a.eval y = .slice (some ⟨b, 0, none⟩) n c) :
    ∃ v' w', (∀ (dst : Option Tmp) (pos : String) (af : Array Edge) (gd : Option (Nat × Bool)), (execOp a.eval ⟨dst, .call { callee := .builtin .append, args := #[x, y], argTypes := #[40, 40] }, ty, pos, af, gd⟩).run Tryz.prog w = .ok (.value v') w') ∧
      ∃ g cap, v' = .slice (some ⟨g, 0, none⟩) n cap ∧ w.heap.size ≤ g ∧ SecsIn w' g ls ∧ Tch [] w w' := by
  obtain ⟨i, i1, i2, i3, i4⟩ := pageT.info
  obtain ⟨v', w', hr, ht, g, cap, cur, h4, h5, h6, h7, h8⟩ := exec_append_nil (P := Tryz.prog) (w := w) (a := a) (ty := ty) (x := x) (y := y) (c := c) (m := n) (b := b) (size := 480) (news := (secsA ls).toList) uPages9 i1 i4 i2 (by rw [i3]; decide) (zero_cells 480) (by decide) (by simp [hl])
    (fun j u hj => SecsIn.cell9 h hj) (fun u hu => secsA_one ls u hu) (by omega) (by omega) hx hy
  refine ⟨v', w', hr, g, cap, h4, h5, ⟨cur, _, h6, by rw [hl]; exact h7, ?_⟩, ht⟩
  apply Array.toList_inj.1
  rw [Array.toList_extract, List.extract_eq_take_drop, List.drop_zero, Nat.sub_zero, hl, h8]
def KTw (x hb hc n Y B : Nat) (bs : List Bool) : Nat → Value → World → Prop
  | 0, v, _ => v = .pointer (some ⟨Y, 0, none⟩)
  | 1, v, _ => v = .pointer (some ⟨Y, 0, none⟩)
  | 2, v, _ => v = .pointer (some ⟨Y, 0, none⟩)
  | 3, v, _ => v = .pointer (some ⟨Y, 0, none⟩)
  | 4, v, _ => v = .slice none 0 0
  | 5, v, _ => v = .pointer (some ⟨x, 0, none⟩)
  | 6, v, _ => v = .pointer (some ⟨x, 0, none⟩)
  | 7, v, _ => v = .pointer (some ⟨x, 0, none⟩)
  | 8, v, _ => v = .slice (some ⟨hb, 0, none⟩) n hc
  | 9, v, w => ∃ g cap, v = .slice (some ⟨g, 0, none⟩) n cap ∧ B ≤ g ∧ BoolsIn w g bs
  | 10, v, _ => v = .pointer (some ⟨Y, 0, none⟩)
  | _, v, _ => v = .pointer (some ⟨Y, 0, none⟩)
def KTp (x pb pc n Y B : Nat) (ls : List Page) : Nat → Value → World → Prop
  | 0, v, _ => v = .pointer (some ⟨Y, 0, none⟩)
  | 1, v, _ => v = .pointer (some ⟨Y, 0, none⟩)
  | 2, v, _ => v = .pointer (some ⟨Y, 0, none⟩)
  | 3, v, _ => v = .pointer (some ⟨Y, 1, none⟩)
  | 4, v, _ => v = .slice none 0 0
  | 5, v, _ => v = .pointer (some ⟨x, 0, none⟩)
  | 6, v, _ => v = .pointer (some ⟨x, 0, none⟩)
  | 7, v, _ => v = .pointer (some ⟨x, 1, none⟩)
  | 8, v, _ => v = .slice (some ⟨pb, 0, none⟩) n pc
  | 9, v, w => ∃ g cap, v = .slice (some ⟨g, 0, none⟩) n cap ∧ B ≤ g ∧ SecsIn w g ls
  | 10, v, _ => v = .pointer (some ⟨Y, 0, none⟩)
  | _, v, _ => v = .pointer (some ⟨Y, 1, none⟩)
theorem KTw.later {x hb hc n Y B : Nat} {bs : List Bool} {j : Nat} {v : Value} {w w' : World} (h : KTw x hb hc n Y B bs j v w) (ht : Tch [] w w') : KTw x hb hc n Y B bs j v w' := by
  unfold KTw at h ⊢
  split at h <;> first | exact h | (obtain ⟨g, c, e, h1, hk⟩ := h; exact ⟨g, c, e, h1, hk.touch ht (by simp)⟩)
theorem KTp.later {x pb pc n Y B : Nat} {ls : List Page} {j : Nat} {v : Value} {w w' : World} (h : KTp x pb pc n Y B ls j v w) (ht : Tch [] w w') : KTp x pb pc n Y B ls j v w' := by
  unfold KTp at h ⊢
  split at h <;> first | exact h | (obtain ⟨g, c, e, h1, hk⟩ := h; exact ⟨g, c, e, h1, hk.touch ht (by simp)⟩)
theorem rootsV_eq (r : Nat → Nat) : rootsV r = #[.int .i64 (r 0), .int .i64 (r 1), .int .i64 (r 2), .int .i64 (r 3), .int .i64 (r 4), .int .i64 (r 5), .int .i64 (r 6), .int .i64 (r 7)] := rfl
set_option maxRecDepth 20000 in
set_option maxHeartbeats 2000000 in
theorem twin_any {w : World} {x hb hc pb pc n : Nat} {W : HoldS} (h : WAt w x hb hc pb pc n W) (hn : 3 ≤ n ∧ n ≤ 4000) :
    Calls Tryz.prog 17 #[.pointer (some ⟨x, 0, none⟩)] w fun e w' => Tch [] w w' ∧ ∃ x2 hb2 hc2 pb2 pc2, e = .returned (.pointer (some ⟨x2, 0, none⟩)) ∧ WAt w' x2 hb2 hc2 pb2 pc2 n W ∧ w.heap.size ≤ x2 ∧ w.heap.size ≤ hb2 ∧ w.heap.size ≤ pb2 := by
  have H := Lib.hid h
  have hn3 := hn
  have HSZ : Hid (2 + 8 ≤ (worldA hb hc pb pc n W.roots).size) := by show _ ≤ _; rw [size_worldA]; decide
  have HEX : Hid ((worldA hb hc pb pc n W.roots).extract 2 (2 + 8) = rootsV W.roots) := by
    show _ = _
    apply Array.ext_getElem?
    intro j
    rw [Array.getElem?_extract]
    by_cases hj : j < 8
    · rw [if_pos (by rw [size_worldA]; omega), worldA_root _ _ _ _ _ _ hj, rootsV_get _ hj]
    · rw [if_neg (by rw [size_worldA]; omega), Array.getElem?_eq_none (by rw [size_rootsV]; omega)]
  have c0 := h.c0
  have c1 := h.c1
  have HH := Lib.hid h.hh
  have HP := Lib.hid h.hp
  clear h
  go_enter Tryz.func17, Tryz.ntmps17
  rw [rootsV_eq] at HEX
  go_upto_region 2 with ((with_reducible refine wc_load_part rootsT.agg H.out.hx HSZ.out HEX.out ?_ ?_); exact rfl; go_frame)
  have ta : Tch [] w (w.alloc (.cells #[.slice none 0 0, .slice none 0 0, .int .i64 (W.roots 0), .int .i64 (W.roots 1), .int .i64 (W.roots 2), .int .i64 (W.roots 3), .int .i64 (W.roots 4), .int .i64 (W.roots 5), .int .i64 (W.roots 6), .int .i64 (W.roots 7)] 43)) := (Tch.refl _ _).alloc _
  have hy : (w.alloc (.cells #[.slice none 0 0, .slice none 0 0, .int .i64 (W.roots 0), .int .i64 (W.roots 1), .int .i64 (W.roots 2), .int .i64 (W.roots 3), .int .i64 (W.roots 4), .int .i64 (W.roots 5), .int .i64 (W.roots 6), .int .i64 (W.roots 7)] 43)).heap[w.heap.size]? = some (.cells (#[.slice none 0 0, .slice none 0 0] ++ rootsV W.roots) 43) := heap_alloc_new _ _
  have TA := Lib.hid ta
  have HY := Lib.hid hy
  have H1 := Lib.hid (H.out.old ta)
  clear ta hy HSZ HEX c0 c1
  generalize w.alloc (.cells #[.slice none 0 0, .slice none 0 0, .int .i64 (W.roots 0), .int .i64 (W.roots 1), .int .i64 (W.roots 2), .int .i64 (W.roots 3), .int .i64 (W.roots 4), .int .i64 (W.roots 5), .int .i64 (W.roots 6), .int .i64 (W.roots 7)] 43) = w1 at *
  obtain ⟨Y, hY⟩ : ∃ Y, w.heap.size = Y := ⟨_, rfl⟩
  have HYY := Lib.hid hY
  rw [hY] at HY ⊢
  clear hY
  have c0 := H1.out.c0
  have cy0 : w1.cell? ⟨Y, 0, none⟩ = some (.slice none 0 0) := by rw [cell_of_row w1 Y 0 _ _ _ HY.out]; rfl
  have HH := Lib.hid H1.out.hh
  have hl := H1.out.l1
  refine wp_region_valt 12 (fun w' => Tch [] w1 w') (KTw x hb hc n Y w1.heap.size W.have_) (by kernel_rfl) (by kernel_rfl) (by kernel_rfl) ((Tch.refl _ _).drew) (fun w4 w5 _ _ ht i v hk => hk.later ht) ?_ ?_
  · intro i o hi ho fu w' hC hold hdep
    have d0 := cell_old hC c0
    have y0 := cell_old hC cy0
    have hi7 : i = 0 ∨ i = 1 ∨ i = 2 ∨ i = 3 ∨ i = 4 ∨ i = 5 ∨ i = 6 ∨ i = 7 ∨ i = 8 ∨ i = 9 ∨ i = 10 ∨ i = 11 := by omega
    rcases hi7 with rfl | rfl | rfl | rfl | rfl | rfl | rfl | rfl | rfl | rfl | rfl | rfl
    all_goals (simp only [List.getElem?_cons_zero, List.getElem?_cons_succ, Option.some.injEq] at ho; subst ho)
    · refine step_plain rfl ?_
      have x3 : fu.tmps[3]?.getD undef = .pointer (some ⟨Y, 0, none⟩) := ev_tmp (hold 3 (by show _ < 35; omega) (by kernel_rfl))
      go_simp
      exact ⟨rfl, Tch.refl _ _⟩
    · refine step_plain rfl ?_
      have x3 : fu.tmps[3]?.getD undef = .pointer (some ⟨Y, 0, none⟩) := ev_tmp (hold 3 (by show _ < 35; omega) (by kernel_rfl))
      go_simp
      exact ⟨rfl, Tch.refl _ _⟩
    · refine step_plain rfl ?_
      have x11 : fu.tmps[11]?.getD undef = .pointer (some ⟨Y, 0, none⟩) := ev_tmp (hdep 1 11 (by show _ < 35; omega) (by kernel_rfl) (by kernel_rfl))
      go_simp
      exact ⟨rfl, Tch.refl _ _⟩
    · refine step_plain rfl ?_
      have x12 : fu.tmps[12]?.getD undef = .pointer (some ⟨Y, 0, none⟩) := ev_tmp (hdep 2 12 (by show _ < 35; omega) (by kernel_rfl) (by kernel_rfl))
      go_simp
      exact ⟨rfl, Tch.refl _ _⟩
    · refine step_plain rfl ?_
      have x13 : fu.tmps[13]?.getD undef = .pointer (some ⟨Y, 0, none⟩) := ev_tmp (hdep 3 13 (by show _ < 35; omega) (by kernel_rfl) (by kernel_rfl))
      go_simp
      exact ⟨rfl, Tch.refl _ _⟩
    · refine step_plain rfl ?_
      have x0 : fu.tmps[0]?.getD undef = .pointer (some ⟨x, 0, none⟩) := ev_tmp (hold 0 (by show _ < 35; omega) (by kernel_rfl))
      go_simp
      exact ⟨rfl, Tch.refl _ _⟩
    · refine step_plain rfl ?_
      have x15 : fu.tmps[15]?.getD undef = .pointer (some ⟨x, 0, none⟩) := ev_tmp (hdep 5 15 (by show _ < 35; omega) (by kernel_rfl) (by kernel_rfl))
      go_simp
      exact ⟨rfl, Tch.refl _ _⟩
    · refine step_plain rfl ?_
      have x16 : fu.tmps[16]?.getD undef = .pointer (some ⟨x, 0, none⟩) := ev_tmp (hdep 6 16 (by show _ < 35; omega) (by kernel_rfl) (by kernel_rfl))
      go_simp
      exact ⟨rfl, Tch.refl _ _⟩
    · refine step_plain rfl ?_
      have x17 : fu.tmps[17]?.getD undef = .pointer (some ⟨x, 0, none⟩) := ev_tmp (hdep 7 17 (by show _ < 35; omega) (by kernel_rfl) (by kernel_rfl))
      go_simp
      exact ⟨rfl, Tch.refl _ _⟩
    · refine step_plain rfl ?_
      obtain ⟨v', w6, hr, g, cap, rfl, hg, hbi, t6⟩ := exec_append_bools (ty := 33) (a := fu) hl hn3 (HH.out.touch hC (by simp)) (x := .tmp 14) (y := .tmp 18) (hdep 4 14 (by show _ < 35; omega) (by kernel_rfl) (by kernel_rfl)) (hdep 8 18 (by show _ < 35; omega) (by kernel_rfl) (by kernel_rfl))
      exact stpR_ok (hr _ _ _ _) ⟨⟨g, cap, rfl, Nat.le_trans hC.size hg, hbi⟩, hC.trans t6, t6⟩
    · refine step_plain rfl ?_
      have x10 : fu.tmps[10]?.getD undef = .pointer (some ⟨Y, 0, none⟩) := ev_tmp (hdep 0 10 (by show _ < 35; omega) (by kernel_rfl) (by kernel_rfl))
      go_simp
      exact ⟨rfl, Tch.refl _ _⟩
    · refine step_plain rfl ?_
      have x20 : fu.tmps[20]?.getD undef = .pointer (some ⟨Y, 0, none⟩) := ev_tmp (hdep 10 20 (by show _ < 35; omega) (by kernel_rfl) (by kernel_rfl))
      go_simp
      exact ⟨rfl, Tch.refl _ _⟩
  · intro vs w2 hC hK
    obtain ⟨g2, cap2, h9, hg2, hb2⟩ := hK 9 (by omega)
    have h11 : vs 11 = .pointer (some ⟨Y, 0, none⟩) := hK 11 (by omega)
    have H9 := Lib.hid h9
    have H11 := Lib.hid h11
    have T2 := Lib.hid hC
    have B2 := Lib.hid hb2
    have G2 := Lib.hid hg2
    clear hK hC h9 h11 hb2 hg2 c0 cy0 HH hl
    unfold fullOf
    rw [show (List.range 12).map vs = [vs 0, vs 1, vs 2, vs 3, vs 4, vs 5, vs 6, vs 7, vs 8, vs 9, vs 10, vs 11] from rfl, H9.out, H11.out]
    generalize vs 0 = v0
    generalize vs 1 = v1
    generalize vs 2 = v2
    generalize vs 3 = v3
    generalize vs 4 = v4
    generalize vs 5 = v5
    generalize vs 6 = v6
    generalize vs 7 = v7
    generalize vs 8 = v8
    generalize vs 10 = v10
    clear H9 H11 vs
    simp only [List.take_succ_cons, List.take_zero, List.drop_succ_cons, List.drop_zero, putAll]
    go_frame
    have cy1 : w2.cell? ⟨Y, 0, none⟩ = some (.slice none 0 0) := by rw [cell_of_row w2 Y 0 _ _ _ (T2.out.heap HY.out (by simp))]; rfl
    have fy := frozen_of_row w2 Y 0 _ _ (T2.out.heap HY.out (by simp))
    have YL : Hid (Y < w1.heap.size) := lt_of_heap HY.out
    have HXL := Lib.hid H1.out.lt
    have XY : Hid (x < Y) := by show _ < _; have := H.out.lt.1; have := HYY.out; omega
    have t3 : Tch [Y] w2 (w2.setCell ⟨Y, 0, none⟩ (.slice (some ⟨g2, 0, none⟩) n cap2)) := (Tch.refl _ _).setCell (by simp) _
    have hy3 : (w2.setCell ⟨Y, 0, none⟩ (.slice (some ⟨g2, 0, none⟩) n cap2)).heap[Y]? = some (.cells (#[.slice (some ⟨g2, 0, none⟩) n cap2, .slice none 0 0] ++ rootsV W.roots) 43) := heap_setCell_cells (T2.out.heap HY.out (by simp)) _ _
    have HY3 := Lib.hid hy3
    have B3 := Lib.hid (B2.out.touch t3 (by have := G2.out; have := YL.out; simp; omega))
    have WL := Lib.hid H.out.lt
    have NY : Hid (x ≠ Y ∧ hb ≠ Y ∧ pb ≠ Y) := by
      have a := WL.out; have b := HYY.out
      exact ⟨by omega, by omega, by omega⟩
    have H3 := Lib.hid ((H1.out.old T2.out).touch t3 (by simpa using NY.out.1) (by simpa using NY.out.2.1) (by simpa using NY.out.2.2))
    have T3 := Lib.hid (tch_own (TA.out.trans T2.out) t3 (by have := HYY.out; simp; omega))
    have G3 : Hid (Y < g2) := by show _ < _; have := G2.out; have := YL.out; omega
    have S3 := Lib.hid t3.size
    have S2 := Lib.hid T2.out.size
    have BL := Lib.hid B3.out.lt
    clear t3 hy3 H1 HY T2 B2
    go_upto_region 3 with fail
    generalize w2.setCell ⟨Y, 0, none⟩ (.slice (some ⟨g2, 0, none⟩) n cap2) = w3 at *
    clear cy1 fy
    have c1 := H3.out.c1
    have cy1 : w3.cell? ⟨Y, 1, none⟩ = some (.slice none 0 0) := by rw [cell_of_row w3 Y 1 _ _ _ HY3.out]; rfl
    have HP := Lib.hid H3.out.hp
    have hl := H3.out.l2
    refine wp_region_valt 12 (fun w' => Tch [] w3 w') (KTp x pb pc n Y w3.heap.size W.pages) (by kernel_rfl) (by kernel_rfl) (by kernel_rfl) ((Tch.refl _ _).drew) (fun w4 w5 _ _ ht i v hk => hk.later ht) ?_ ?_
    · intro i o hi ho fu w' hC hold hdep
      have d1 := cell_old hC c1
      have y1 := cell_old hC cy1
      have hi7 : i = 0 ∨ i = 1 ∨ i = 2 ∨ i = 3 ∨ i = 4 ∨ i = 5 ∨ i = 6 ∨ i = 7 ∨ i = 8 ∨ i = 9 ∨ i = 10 ∨ i = 11 := by omega
      rcases hi7 with rfl | rfl | rfl | rfl | rfl | rfl | rfl | rfl | rfl | rfl | rfl | rfl
      all_goals (simp only [List.getElem?_cons_zero, List.getElem?_cons_succ, Option.some.injEq] at ho; subst ho)
      · refine step_plain rfl ?_
        have x3 : fu.tmps[3]?.getD undef = .pointer (some ⟨Y, 0, none⟩) := ev_tmp (hold 3 (by show _ < 35; omega) (by kernel_rfl))
        go_simp
        exact ⟨rfl, Tch.refl _ _⟩
      · refine step_plain rfl ?_
        have x3 : fu.tmps[3]?.getD undef = .pointer (some ⟨Y, 0, none⟩) := ev_tmp (hold 3 (by show _ < 35; omega) (by kernel_rfl))
        go_simp
        exact ⟨rfl, Tch.refl _ _⟩
      · refine step_plain rfl ?_
        have x23 : fu.tmps[23]?.getD undef = .pointer (some ⟨Y, 0, none⟩) := ev_tmp (hdep 1 23 (by show _ < 35; omega) (by kernel_rfl) (by kernel_rfl))
        go_simp
        exact ⟨rfl, Tch.refl _ _⟩
      · refine step_plain rfl ?_
        have x24 : fu.tmps[24]?.getD undef = .pointer (some ⟨Y, 0, none⟩) := ev_tmp (hdep 2 24 (by show _ < 35; omega) (by kernel_rfl) (by kernel_rfl))
        go_simp
        exact ⟨rfl, Tch.refl _ _⟩
      · refine step_plain rfl ?_
        have x25 : fu.tmps[25]?.getD undef = .pointer (some ⟨Y, 1, none⟩) := ev_tmp (hdep 3 25 (by show _ < 35; omega) (by kernel_rfl) (by kernel_rfl))
        go_simp
        exact ⟨rfl, Tch.refl _ _⟩
      · refine step_plain rfl ?_
        have x0 : fu.tmps[0]?.getD undef = .pointer (some ⟨x, 0, none⟩) := ev_tmp (hold 0 (by show _ < 35; omega) (by kernel_rfl))
        go_simp
        exact ⟨rfl, Tch.refl _ _⟩
      · refine step_plain rfl ?_
        have x27 : fu.tmps[27]?.getD undef = .pointer (some ⟨x, 0, none⟩) := ev_tmp (hdep 5 27 (by show _ < 35; omega) (by kernel_rfl) (by kernel_rfl))
        go_simp
        exact ⟨rfl, Tch.refl _ _⟩
      · refine step_plain rfl ?_
        have x28 : fu.tmps[28]?.getD undef = .pointer (some ⟨x, 0, none⟩) := ev_tmp (hdep 6 28 (by show _ < 35; omega) (by kernel_rfl) (by kernel_rfl))
        go_simp
        exact ⟨rfl, Tch.refl _ _⟩
      · refine step_plain rfl ?_
        have x29 : fu.tmps[29]?.getD undef = .pointer (some ⟨x, 1, none⟩) := ev_tmp (hdep 7 29 (by show _ < 35; omega) (by kernel_rfl) (by kernel_rfl))
        go_simp
        exact ⟨rfl, Tch.refl _ _⟩
      · refine step_plain rfl ?_
        obtain ⟨v', w6, hr, g, cap, rfl, hg, hbi, t6⟩ := exec_append_pages (ty := 40) (a := fu) hl hn3 (HP.out.touch hC (by simp)) (x := .tmp 26) (y := .tmp 30) (hdep 4 26 (by show _ < 35; omega) (by kernel_rfl) (by kernel_rfl)) (hdep 8 30 (by show _ < 35; omega) (by kernel_rfl) (by kernel_rfl))
        exact stpR_ok (hr _ _ _ _) ⟨⟨g, cap, rfl, Nat.le_trans hC.size hg, hbi⟩, hC.trans t6, t6⟩
      · refine step_plain rfl ?_
        have x22 : fu.tmps[22]?.getD undef = .pointer (some ⟨Y, 0, none⟩) := ev_tmp (hdep 0 22 (by show _ < 35; omega) (by kernel_rfl) (by kernel_rfl))
        go_simp
        exact ⟨rfl, Tch.refl _ _⟩
      · refine step_plain rfl ?_
        have x32 : fu.tmps[32]?.getD undef = .pointer (some ⟨Y, 0, none⟩) := ev_tmp (hdep 10 32 (by show _ < 35; omega) (by kernel_rfl) (by kernel_rfl))
        go_simp
        exact ⟨rfl, Tch.refl _ _⟩
    · intro vs w4 hC hK
      obtain ⟨g4, cap4, h9, hg4, hb4⟩ := hK 9 (by omega)
      have h11 : vs 11 = .pointer (some ⟨Y, 1, none⟩) := hK 11 (by omega)
      have H9 := Lib.hid h9
      have H11 := Lib.hid h11
      have T4 := Lib.hid hC
      have P4 := Lib.hid hb4
      have G4 := Lib.hid hg4
      clear hK hC h9 h11 hb4 hg4 c1 cy1 HP hl
      unfold fullOf
      rw [show (List.range 12).map vs = [vs 0, vs 1, vs 2, vs 3, vs 4, vs 5, vs 6, vs 7, vs 8, vs 9, vs 10, vs 11] from rfl, H9.out, H11.out]
      generalize vs 0 = v0
      generalize vs 1 = v1
      generalize vs 2 = v2
      generalize vs 3 = v3
      generalize vs 4 = v4
      generalize vs 5 = v5
      generalize vs 6 = v6
      generalize vs 7 = v7
      generalize vs 8 = v8
      generalize vs 10 = v10
      clear H9 H11 vs
      simp only [List.take_succ_cons, List.take_zero, List.drop_succ_cons, List.drop_zero, putAll]
      go_frame
      have hy4 := T4.out.heap HY3.out (by simp)
      have cy1 : w4.cell? ⟨Y, 1, none⟩ = some (.slice none 0 0) := by rw [cell_of_row w4 Y 1 _ _ _ hy4]; rfl
      have fy := frozen_of_row w4 Y 1 _ _ hy4
      have t5 : Tch [Y] w4 (w4.setCell ⟨Y, 1, none⟩ (.slice (some ⟨g4, 0, none⟩) n cap4)) := (Tch.refl _ _).setCell (by simp) _
      have hy5 : (w4.setCell ⟨Y, 1, none⟩ (.slice (some ⟨g4, 0, none⟩) n cap4)).heap[Y]? = some (.cells (worldA g2 cap2 g4 cap4 n W.roots) 43) := heap_setCell_cells hy4 _ _
      have HY5 := Lib.hid hy5
      have L4 : Hid (w3.heap.size ≤ g4) := G4.out
      have B5 := Lib.hid ((B3.out.touch T4.out (by simp)).touch t5 (by have := G3.out; simp; omega))
      have P5 := Lib.hid (P4.out.touch t5 (by have := G3.out; have := BL.out; have := L4.out; simp; omega))
      have T5 := Lib.hid (tch_own (T3.out.trans T4.out) t5 (by have := HYY.out; simp; omega))
      clear t5 hy5 hy4
      go_wp2_with fail
      go_ret
      have := HYY.out
      have := G3.out
      have := BL.out
      have := L4.out
      exact ⟨T5.out, Y, g2, cap2, g4, cap4, rfl, ⟨HY5.out, B5.out, P5.out, H3.out.l1, H3.out.l2, by omega, by omega, by omega⟩, by omega, by omega, by omega⟩
end Go.Proofs.YtkjgbhpnlgcinaaGreatDoor
/-
  One op of a holder: (*ciboriumlaw09.world).act.
-/
namespace Go.Cib
open Go Go.RowKit
namespace PgS
theorem put_log (P : PgS) (n : Int) (x : Page) : (P.put n x).2.log = P.log ∧ (P.put n x).2.last = P.last ∧ (P.put n x).2.pages = P.pages := by
  unfold put; split <;> exact ⟨rfl, rfl, rfl⟩
theorem take_log (P : PgS) : P.take.2.log = P.log ∧ P.take.2.last = P.last ∧ P.take.2.pages = P.pages := by
  unfold take; split <;> exact ⟨rfl, rfl, rfl⟩
theorem give_log (P : PgS) (n : Int) : (P.give n).2.log = P.log ∧ (P.give n).2.last = P.last ∧ (P.give n).2.pages = P.pages := by
  unfold give; split
  · exact ⟨rfl, rfl, rfl⟩
  · split <;> exact ⟨rfl, rfl, rfl⟩
theorem setRoot_log (P : PgS) (i n : Int) : (P.setRoot i n).2.log = P.log ∧ (P.setRoot i n).2.last = P.last ∧ (P.setRoot i n).2.pages = P.pages := by
  unfold setRoot; split
  · exact ⟨rfl, rfl, rfl⟩
  · split <;> exact ⟨rfl, rfl, rfl⟩
theorem may_in {P : PgS} {q : Nat} (h2 : 2 ≤ q) (hq : q < P.pages) : P.may (q : Int) = if P.now.taken q = true then 0 else 91 := by
  unfold may
  rw [if_neg (by omega), Int.toNat_natCast]
  cases P.now.taken q <;> rfl
end PgS
theorem PgS.take_cases {P : PgS} {base : Nat → Page} (s : P.Snd base) : (∃ k : Nat, 2 ≤ k ∧ k < P.pages ∧ P.now.taken k = false ∧ P.take = (((k : Int), 0), { P with now := P.now.set k true, over := fun j => if j = (k : Int) then some Arr.zero else P.over j })) ∨
    (P.take = ((0, 5), P) ∧ ∀ j, j < P.pages → P.now.taken j = true) := by
  obtain ⟨k, k1, k2, k3, k4⟩ := P.now.first_spec P.pages (s.ok.now _ (Nat.le_refl _))
  by_cases h : k < P.pages
  · refine .inl ⟨k, ?_, h, k2, ?_⟩
    · rcases Nat.lt_or_ge k 2 with hlt | hge
      · exfalso
        rcases (show k = 0 ∨ k = 1 by omega) with rfl | rfl
        · rw [s.good.t0] at k2; cases k2
        · rw [s.good.t1] at k2; cases k2
      · exact hge
    · unfold PgS.take; rw [k4, if_pos h]
  · refine .inr ⟨?_, fun j hj => k3 j (by omega)⟩
    unfold PgS.take; rw [k4, if_neg h]
/-- What an op of a holder leaves. -/
structure Acted (P P2 : PgS) (base : Nat → Page) (W2 : HoldS) : Prop where
  snd : P2.Snd base
  knows : W2.Knows P2 base
  log : P2.log = P.log
  last : P2.last = P.last
  pages : P2.pages = P.pages
theorem HoldS.Knows.is_root {W : HoldS} {P : PgS} {base : Nat → Page} (h : W.Knows P base) (q : Int) : ((List.range 8).any fun i => decide ((W.roots i : Int) = q)) = P.isRoot q := by
  unfold PgS.isRoot
  rw [Bool.eq_iff_iff, List.any_eq_true, List.any_eq_true]
  constructor
  · rintro ⟨i, hi, e⟩
    exact ⟨i, hi, by rw [← h.rt i (List.mem_range.1 hi)]; exact e⟩
  · rintro ⟨i, hi, e⟩
    exact ⟨i, hi, by rw [h.rt i (List.mem_range.1 hi)]; exact e⟩
end Go.Cib
namespace Go.Proofs.YtkjgbhpnlgcinaaGreatDoor
open Go.RowKit Go.Cib
theorem cf_text9 (args : Array Value) (w : World) : (callFunc 54 args).run Tryz.prog w = .ok (.enter 54 args) w := by kernel_rfl
theorem mod_pos2 (x : Int) {n : Nat} (h : 1 ≤ n) : 0 ≤ (x.tmod n + n).tmod n ∧ (x.tmod n + n).tmod n < n ∧ -(n : Int) < x.tmod n ∧ x.tmod n < n := by
  have hn : (0 : Int) < n := by omega
  have h1 := Int.tmod_lt_of_pos x hn
  have h2 : -(n : Int) < x.tmod n := by have := Int.lt_tmod_of_pos x hn; omega
  have h3 : 0 ≤ x.tmod n + n := by omega
  exact ⟨Int.tmod_nonneg _ h3, Int.tmod_lt_of_pos _ hn, h2, h1⟩
/-- A holder's world and the pages, apart from one another. -/
structure Both (w : World) (x hb hc pb pc n p g d L M V Mo : Nat) (W : HoldS) (P : PgS) (base : Nat → Page) : Prop where
  wat : WAt w x hb hc pb pc n W
  pat : PgAt w p g d L M V Mo P
  snd : P.Snd base
  knows : W.Knows P base
  len : P.pages = n
  sep : ∀ k ∈ [x, hb, pb], k ∉ 0 :: pgB p g d L M V Mo
theorem Both.old {w w' : World} {x hb hc pb pc n p g d L M V Mo : Nat} {W : HoldS} {P : PgS} {base : Nat → Page} (h : Both w x hb hc pb pc n p g d L M V Mo W P base) (ht : Tch [] w w') : Both w' x hb hc pb pc n p g d L M V Mo W P base :=
  ⟨h.wat.old ht, h.pat.old ht, h.snd, h.knows, h.len, h.sep⟩
/-- The pages were turned. -/
theorem Both.paged {w w' : World} {x hb hc pb pc n p g d L M V Mo : Nat} {W : HoldS} {P : PgS} {base : Nat → Page} (h : Both w x hb hc pb pc n p g d L M V Mo W P base) {X : List Nat} (hX : ∀ k ∈ X, k ∈ pgB p g d L M V Mo) (ht : Tch X w w') : WAt w' x hb hc pb pc n W :=
  h.wat.touch ht (fun hm => h.sep x (by simp) (List.mem_cons_of_mem _ (hX _ hm))) (fun hm => h.sep hb (by simp) (List.mem_cons_of_mem _ (hX _ hm))) (fun hm => h.sep pb (by simp) (List.mem_cons_of_mem _ (hX _ hm)))
/-- The world was turned. -/
theorem pg_apart {w w' : World} {x hb pb p g d L M V Mo : Nat} {P : PgS} (sep : ∀ k ∈ [x, hb, pb], k ∉ 0 :: pgB p g d L M V Mo) {X : List Nat} (hX : ∀ k ∈ X, k ∈ [x, hb, pb]) (ht : Tch X w w') (hp : PgAt w p g d L M V Mo P) : PgAt w' p g d L M V Mo P :=
  hp.touch ht fun k hk hm => sep k (hX k hm) hk
set_option maxRecDepth 20000 in
set_option maxHeartbeats 4000000 in
theorem act_any {w : World} {x hb hc pb pc n p g d L M V Mo : Nat} {W : HoldS} {P : PgS} {base : Nat → Page} (h : Both w x hb hc pb pc n p g d L M V Mo W P base) (hn : 3 ≤ n ∧ n ≤ 3840) {o : Op9V} (ho : Op9Ok w o) :
    Calls Tryz.prog 20 #[.pointer (some ⟨x, 0, none⟩), .pointer (some ⟨p, 0, none⟩), .agg #[.int .i64 o.what, .int .i64 o.i, .int .i64 o.n, .string o.text, .slice o.ka o.keep.length o.kcap]] w fun e w' =>
      e = .returned (.bool true) ∧ ∃ W2 P2, Both w' x hb hc pb pc n p g d L M V Mo W2 P2 base ∧ P2.log = P.log ∧ P2.last = P.last ∧ Tch [p, Mo, x, hb, pb] w w' := by
  have t0 : Tch [] w (w.alloc o.cells) := (Tch.refl _ _).alloc _
  have b0 : (w.alloc o.cells).heap[w.heap.size]? = some o.cells := heap_alloc_new _ _
  have T0 := Lib.hid t0
  have B0 := Lib.hid b0
  have H := Lib.hid (h.old t0)
  have HO := Lib.hid ho
  have HN := Lib.hid hn
  obtain ⟨m, hm⟩ : ∃ m, n = m + 2 := ⟨n - 2, by omega⟩
  have hm1 : 1 ≤ m := by omega
  obtain ⟨q0, q1, q2, q3⟩ := mod_pos2 o.i (n := m) hm1
  obtain ⟨q, hq⟩ : ∃ q : Nat, 2 + (o.i.tmod m + m).tmod m = (q : Int) := ⟨(2 + (o.i.tmod m + m).tmod m).toNat, by omega⟩
  have hq2 : 2 ≤ q ∧ q < n := by omega
  have f1 : wrap64 ((n : Int) - 2) = (m : Int) := by unfold wrap64; omega
  have f2 : wrap64 (wrap64 (o.i.tmod m + n) - 2) = o.i.tmod m + m := by unfold wrap64; omega
  have f3 : wrap64 (2 + (o.i.tmod m + m).tmod m) = (q : Int) := by rw [hq]; unfold wrap64; omega
  obtain ⟨r0, r1, r2, r3⟩ := mod_pos2 o.n (n := 8) (by decide)
  rw [show ((8 : Nat) : Int) = 8 from rfl] at r0 r1 r2 r3
  obtain ⟨ri, hri⟩ : ∃ ri : Nat, (o.n.tmod 8 + 8).tmod 8 = (ri : Int) := ⟨((o.n.tmod 8 + 8).tmod 8).toNat, by omega⟩
  have hri8 : ri < 8 := by omega
  have f4 : wrap64 (o.n.tmod 8 + 8) = o.n.tmod 8 + 8 := by unfold wrap64; omega
  have hm0 : ((m : Int) == 0) = false := by simp; omega
  have hm2 : ¬ (m = 0) := by omega
  have hm3 : ¬ ((m : Int) = 0) := by omega
  have F1 := Lib.hid f1
  have F2 := Lib.hid f2
  have F3 := Lib.hid f3
  have F4 := Lib.hid f4
  have HQ := Lib.hid hq2
  have HRI := Lib.hid (And.intro hri hri8)
  have WL := Lib.hid h.wat.lt
  have PL : Hid (p < w.heap.size ∧ Mo < w.heap.size) := ⟨h.pat.lt p (by simp), h.pat.lt Mo (by simp)⟩
  clear hm hm1 f1 f2 f3 f4 hq2 hri hri8 q0 q1 q2 q3 r0 r1 r2 r3 hq h ho t0 b0 hn
  go_enter Tryz.func20, Tryz.ntmps20
  go_upto_region 1 with fail
  generalize hw1 : w.alloc (.cells #[.int .i64 o.what, .int .i64 o.i, .int .i64 o.n, .string o.text, .slice o.ka o.keep.length o.kcap] 46) = w1 at *
  clear hw1
  obtain ⟨B, hB⟩ : ∃ B, w.heap.size = B := ⟨_, rfl⟩
  have HB := Lib.hid hB
  rw [hB] at B0 ⊢
  clear hB
  have d1 := box9 B0.out 1 _ rfl
  have c0 := H.out.wat.c0
  refine wp_region_walk (C := fun w' => ∃ n, w' = World.drewN w1 n) 24 (by kernel_rfl) (by kernel_rfl) ⟨1, rfl⟩ ?_
  simp only [List.take_succ_cons, List.take_zero, List.drop_succ_cons, List.drop_zero]
  (repeat (first | rw [F1.out] | rw [F2.out] | go_big_quiet_step (fail)))
  refine wpQuiet_nil ?_
  intro _ hw'
  obtain ⟨nq, hw''⟩ := hw'
  subst hw''
  have H1 := Lib.hid (H.out.old (tch_drewN w1 nq))
  have T1 := Lib.hid (T0.out.trans (tch_drewN w1 nq))
  have B1 := Lib.hid ((tch_drewN w1 nq).heap B0.out (by simp))
  clear d1 c0 H T0 B0 hm0 hm2 hm3
  generalize w1.drewN nq = w2 at *
  rw [F3.out]
  have d2 := box9 B1.out 2 _ rfl
  go_upto_region 3 with fail
  rw [F4.out, HRI.out.1]
  clear d2
  go_wp2_with fail
  have HR := Lib.hid (H1.out.knows.is_root (q : Int))
  go_loopg [9, 10] 8 (fun k v i wr => ∃ j, OnAt 8 i k j ∧ v = .bool ((List.range j).any fun i => decide ((W.roots i : Int) = q)) ∧ wr = w2)
  case atStart => exact ⟨0, ⟨Nat.zero_le _, rfl, rfl⟩, rfl, rfl⟩
  case round =>
    obtain ⟨j, ⟨hj, rfl, rfl⟩, rfl, rfl⟩ := hrel
    by_cases hj8 : j < 8
    · have cj := H1.out.wat.cR hj8
      have hnx : ((List.range (j + 1)).any fun i => decide ((W.roots i : Int) = q)) = (((List.range j).any fun i => decide ((W.roots i : Int) = q)) || decide ((W.roots j : Int) = q)) := by
        rw [List.range_succ, List.any_append]; simp
      have HNX := Lib.hid hnx
      clear hnx
      obtain ⟨b, hb⟩ : ∃ b, ((List.range j).any fun i => decide ((W.roots i : Int) = q)) = b := ⟨_, rfl⟩
      rw [hb] at HNX ⊢
      clear hb
      cases b with
      | true =>
        go_wp2_with fail
        go_roundg (8 - (j + 1))
        case measure => omega
        case rel => exact ⟨j + 1, ⟨by omega, by go_num, rfl⟩, by rw [HNX.out]; rfl, rfl⟩
      | false =>
        by_cases he : (W.roots j : Int) = q
        · have he2 : ((W.roots j : Int) == (q : Int)) = true := by simpa using he
          have HE := Lib.hid he
          clear he
          go_wp2_with fail
          go_roundg (8 - (j + 1))
          case measure => omega
          case rel => exact ⟨j + 1, ⟨by omega, by go_num, rfl⟩, by rw [HNX.out, decide_eq_true HE.out]; rfl, rfl⟩
        · have he2 : ((W.roots j : Int) == (q : Int)) = false := by simpa using he
          have HE := Lib.hid he
          clear he
          go_wp2_with fail
          go_roundg (8 - (j + 1))
          case measure => omega
          case rel => exact ⟨j + 1, ⟨by omega, by go_num, rfl⟩, by rw [HNX.out, decide_eq_false HE.out]; rfl, rfl⟩
    · have hj' : j = 8 := by omega
      subst hj'
      rw [HR.out]
      obtain ⟨isr, hisr⟩ : ∃ isr, P.isRoot (q : Int) = isr := ⟨_, rfl⟩
      have HISR := Lib.hid hisr
      rw [hisr]
      clear hj hj8 hisr HR
      have e0 := box9 B1.out 0 _ rfl
      have E3 := Lib.hid (box9 B1.out 3 _ rfl)
      have HEND : Hid (∀ W2 P2 w5, Both w5 x hb hc pb pc n p g d L M V Mo W2 P2 base → P2.log = P.log → P2.last = P.last → Tch [p, Mo, x, hb, pb] wr w5 → ∃ W2 P2, Both w5 x hb hc pb pc n p g d L M V Mo W2 P2 base ∧ P2.log = P.log ∧ P2.last = P.last ∧ Tch [p, Mo, x, hb, pb] w w5) :=
        fun W2 P2 w5 a b c t => ⟨W2, P2, a, b, c, (T1.out.mono (by simp)).trans t⟩
      have LEN := Lib.hid H1.out.len
      by_cases h3 : o.what = 3
      · have w3 : (o.what == 3) = true := by simp [h3]
        clear h3
        rcases PgS.take_cases H1.out.snd with ⟨k, k2, k3, k4, k5⟩ | ⟨k5, k6⟩
        · have TK := Lib.hid k5
          have K4 := Lib.hid (And.intro k2 (And.intro k3 k4))
          have hs2 := H1.out.snd.take
          rw [k5] at hs2
          have HS2 := Lib.hid hs2
          have HKN := Lib.hid (H1.out.knows.take k3)
          obtain ⟨P2, hP2⟩ : ∃ P2 : PgS, { P with now := P.now.set k true, over := fun j => if j = (k : Int) then some Arr.zero else P.over j } = P2 := ⟨_, rfl⟩
          have HL2 : Hid (P2.log = P.log ∧ P2.last = P.last ∧ P2.pages = P.pages) := by rw [← hP2]; exact ⟨rfl, rfl, rfl⟩
          simp only [hP2] at TK HS2 HKN
          have kn : k < n := by have := LEN.out; omega
          have kk2 : ((k : Int) < 2) = False := by simp; omega
          have hn2 := HN.out.2
          have hcell := H1.out.knows.tk k k2 k3
          rw [k4] at hcell
          have HC := Lib.hid hcell
          clear k2 k3 k4 k5 hs2 hP2 hcell
          go_upto_region 18 with (go_at_call 12; refine (ptake_any H1.out.pat H1.out.snd.ok).mono ?_; rintro e w3 ⟨rfl, h3, t3⟩; rw [TK.out] at h3 ⊢; have P3 := Lib.hid h3; have T3 := Lib.hid t3; clear h3 t3)
          have WA3 := Lib.hid (H1.out.paged (fun k hk => by simp only [List.mem_cons, List.not_mem_nil, or_false] at hk ⊢; omega) T3.out)
          have c0 := WA3.out.c0
          have ch := WA3.out.hh.cell HC.out
          have fh := WA3.out.hh.froz k
          go_upto_region 21 with fail
          have WA4 := Lib.hid (WA3.out.mark k true)
          have c1 := WA4.out.c1
          have tc : Tch [hb] w3 (w3.setCell ⟨hb, k, none⟩ (.bool true)) := (Tch.refl _ _).setCell (by simp) _
          have P4 := Lib.hid (pg_apart H1.out.sep (X := [hb]) (by simp) tc P3.out)
          clear tc
          have T4 : Hid (Tch [p, Mo, x, hb, pb] wr (w3.setCell ⟨hb, k, none⟩ (.bool true))) := (T3.out.mono (by simp)).setCell (by simp) _
          clear ch fh c0 WA3 T3 P3
          generalize w3.setCell ⟨hb, k, none⟩ (.bool true) = w4 at *
          have WS := Lib.hid WA4.out.hp
          have WL2 := Lib.hid WA4.out.l2
          go_wp2_with (first | ((with_reducible apply wc_build_arr pageT); exact rfl; go_frame) | (refine wc_store_in pageT WS.out (i := k) (s := Arr.zero) (by rw [WL2.out]; exact kn) ?_ ?_ (fun w7 s7 t7 => ?_); exact rfl; exact rfl; have S7 := Lib.hid s7; have T7 := Lib.hid t7; clear s7 t7; go_frame))
          go_ret
          refine ⟨rfl, HEND.out (W.took k) P2 w7 ⟨WA4.out.wrote S7.out T7.out, pg_apart H1.out.sep (X := [pb]) (by simp) T7.out P4.out, HS2.out, HKN.out, HL2.out.2.2.trans LEN.out, H1.out.sep⟩ HL2.out.1 HL2.out.2.1 (T4.out.trans (T7.out.mono (by simp)))⟩
        · have TK := Lib.hid k5
          have ALL := Lib.hid k6
          clear k5 k6
          go_upto_region 12 with (go_at_call 12; refine (ptake_any H1.out.pat H1.out.snd.ok).mono ?_; rintro e w3 ⟨rfl, h3, t3⟩; rw [TK.out] at h3 ⊢; have P3 := Lib.hid h3; have T3 := Lib.hid t3; clear h3 t3)
          have WA3 := Lib.hid (H1.out.paged (fun k hk => by simp only [List.mem_cons, List.not_mem_nil, or_false] at hk ⊢; omega) T3.out)
          have c0 := WA3.out.c0
          go_wp2_with fail
          have WT3 := Lib.hid (H1.out.knows.tk)
          go_loopg [13] (n - 2) (fun k v wr => ∃ j, 2 ≤ j ∧ j ≤ n ∧ v = .int .i64 j ∧ k = n - j ∧ wr = w3)
          case atStart => exact ⟨2, Nat.le_refl _, by have := HN.out.1; omega, rfl, rfl, rfl⟩
          case round =>
            obtain ⟨j, hj2, hj, rfl, rfl, rfl⟩ := hrel
            have hn2 := HN.out.2
            by_cases hjn : j < n
            · have ch := WA3.out.hh.cell (WT3.out j hj2 (by rw [LEN.out]; exact hjn))
              rw [ALL.out j (by rw [LEN.out]; exact hjn)] at ch
              go_wp2_with fail
              go_roundg (n - (j + 1))
              case measure => omega
              case rel => exact ⟨j + 1, by omega, by omega, by first | rfl | go_num, rfl, rfl⟩
            · go_wp2_with fail
              go_ret
              refine ⟨rfl, HEND.out W P _ ⟨WA3.out, P3.out, H1.out.snd, H1.out.knows, H1.out.len, H1.out.sep⟩ rfl rfl (T3.out.mono (by simp))⟩
      · have w3 : (o.what == 3) = false := by simpa using h3
        clear h3
        by_cases h2 : o.what = 2
        · have w2_ : (o.what == 2) = true := by simp [h2]
          clear h2
          have HMAY := Lib.hid (PgS.may_in HQ.out.1 (by rw [H1.out.len]; exact HQ.out.2))
          have HTK := Lib.hid (H1.out.knows.tk q HQ.out.1 (by rw [H1.out.len]; exact HQ.out.2))
          obtain ⟨y, hy⟩ : ∃ y : Page, Arr.text o.text.data.toList = y := ⟨_, rfl⟩
          have CTY : Hid (∀ wq w', Tch [] wq w' → Calls Tryz.prog 54 #[.string o.text] w' fun e w'' => e = .returned (.agg (secA y)) ∧ Tch [] wq w'') := fun wq w' ht => (ptext_any o.text w' (by have := HO.out.txt; unfold maxLen at this; omega)).mono fun e w'' ⟨a1, a2⟩ => ⟨by rw [a1, hy], ht.trans a2⟩
          have HPUT := Lib.hid (H1.out.snd.put (q : Int) y)
          have HKN := Lib.hid (H1.out.knows.put (by rw [H1.out.len]; exact HQ.out.2 : q < P.pages) y)
          clear hy
          have e3 := E3.out
          have qn : q < n := HQ.out.2
          cases htk : P.now.taken q with
          | false =>
            have hp : P.put (q : Int) y = (91, P) := by unfold PgS.put; rw [HMAY.out, htk, if_pos (by simp), if_neg (by simp)]
            have HP2 := Lib.hid hp
            rw [htk] at HTK
            clear hp htk
            go_upto_region 24 with (first | (go_at_call 54; refine (CTY.out _ _ (Tch.refl _ _)).mono ?_; rintro e w4 ⟨rfl, t4⟩; have T4 := Lib.hid t4; have H4 := Lib.hid (H1.out.old t4); clear t4) | (go_at_call 28; refine (pput_any H4.out.pat H4.out.snd.ok _ y).mono ?_; rintro e w5 ⟨rfl, h5, t5⟩; rw [HP2.out] at h5 ⊢; have P5 := Lib.hid h5; have T5 := Lib.hid t5; clear h5 t5))
            have WA5 := Lib.hid (H4.out.paged (fun k hk => by simp only [List.mem_cons, List.not_mem_nil, or_false] at hk ⊢; omega) T5.out)
            have c0 := WA5.out.c0
            have ch := WA5.out.hh.cell HTK.out
            go_wp2_with fail
            go_ret
            exact ⟨rfl, HEND.out W P w5 ⟨WA5.out, P5.out, H1.out.snd, H1.out.knows, H1.out.len, H1.out.sep⟩ rfl rfl ((T4.out.mono (S' := [p, Mo, x, hb, pb]) (by simp)).trans (T5.out.mono (by simp)))⟩
          | true =>
            have hp : P.put (q : Int) y = (0, { P with over := fun j => if j = (q : Int) then some y else P.over j }) := by unfold PgS.put; rw [HMAY.out, htk, if_neg (by simp)]
            rw [hp] at HPUT
            obtain ⟨P2, hP2⟩ : ∃ P2 : PgS, { P with over := fun j => if j = (q : Int) then some y else P.over j } = P2 := ⟨_, rfl⟩
            have HLG : Hid (P2.log = P.log ∧ P2.last = P.last ∧ P2.pages = P.pages) := by rw [← hP2]; exact ⟨rfl, rfl, rfl⟩
            simp only [hP2] at hp HPUT HKN
            have HP2 := Lib.hid hp
            rw [htk] at HTK
            clear hp htk hP2
            go_upto_region 24 with (first | (go_at_call 54; refine (CTY.out _ _ (Tch.refl _ _)).mono ?_; rintro e w4 ⟨rfl, t4⟩; have T4 := Lib.hid t4; have H4 := Lib.hid (H1.out.old t4); clear t4) | (go_at_call 28; refine (pput_any H4.out.pat H4.out.snd.ok _ y).mono ?_; rintro e w5 ⟨rfl, h5, t5⟩; rw [HP2.out] at h5 ⊢; have P5 := Lib.hid h5; have T5 := Lib.hid t5; clear h5 t5))
            have WA5 := Lib.hid (H4.out.paged (fun k hk => by simp only [List.mem_cons, List.not_mem_nil, or_false] at hk ⊢; omega) T5.out)
            have c0 := WA5.out.c0
            have ch := WA5.out.hh.cell HTK.out
            go_upto_region 27 with fail
            have B5 := Lib.hid (T5.out.heap (T4.out.heap B1.out (by simp)) (by have a1 := HB.out; have a3 := PL.out; simp; omega))
            have C1 : Hid (∀ w', Tch [] w5 w' → w'.cell? ⟨x, 1, none⟩ = some (.slice (some ⟨pb, 0, none⟩) n pc)) := fun w' ht => cell_old ht WA5.out.c1
            have C3 : Hid (∀ w', Tch [] w5 w' → w'.cell? ⟨B, 3, none⟩ = some (.string o.text)) := fun w' ht => cell_old ht (box9 B5.out 3 _ rfl)
            have CT5 : Hid (∀ w', Tch [] w5 w' → Calls Tryz.prog 54 #[.string o.text] w' fun e w'' => e = .returned (.agg (secA y)) ∧ Tch [] w5 w'') := CTY.out w5
            clear ch c0 e3
            refine wp_region_walk (C := fun w' => Tch [] w5 w') 9 (by kernel_rfl) (by kernel_rfl) ((Tch.refl _ _).drew) ?_
            simp only [List.take_succ_cons, List.take_zero, List.drop_succ_cons, List.drop_zero]
            (repeat (first
              | ((with_reducible refine wq_fn cf_text9 ?_ ?_ CT5.out ?_); exact rfl; exact rfl; go_frame)
              | ((with_reducible refine wq_load_cell (by kernel_rfl) C1.out ?_ ?_ ?_); exact rfl; exact rfl; go_frame)
              | ((with_reducible refine wq_load_cell (by kernel_rfl) C3.out ?_ ?_ ?_); exact rfl; exact rfl; go_frame)
              | go_big_quiet_skip | (go_big_quiet_want; go_big_quiet_op; first | go_big_quiet_on | (refine ⟨_, fun _ _ => rfl, ?_⟩; go_big_quiet_on))))
            refine wpQuiet_nil ?_
            intro w6 t6
            have WA6 := Lib.hid (WA5.out.old t6)
            have P6 := Lib.hid (P5.out.old t6)
            have T6 := Lib.hid t6
            have WL2 := Lib.hid WA6.out.l2
            refine wc_store_in pageT WA6.out.hp (i := q) (s := y) (by rw [WL2.out]; exact HQ.out.2) ?_ ?_ (fun w7 s7 t7 => ?_)
            · exact rfl
            · exact rfl
            have S7 := Lib.hid s7
            have T7 := Lib.hid t7
            clear s7 t7 t6
            go_frame
            go_wp2_with fail
            go_ret
            exact ⟨rfl, HEND.out (W.wrote q y) P2 w7 ⟨WA6.out.wrote S7.out T7.out, pg_apart H1.out.sep (X := [pb]) (by simp) T7.out P6.out, HPUT.out, HKN.out, HLG.out.2.2.trans LEN.out, H1.out.sep⟩ HLG.out.1 HLG.out.2.1 ((((T4.out.mono (S' := [p, Mo, x, hb, pb]) (by simp)).trans (T5.out.mono (by simp))).trans (T6.out.mono (by simp))).trans (T7.out.mono (by simp)))⟩
        · have w2_ : (o.what == 2) = false := by simpa using h2
          clear h2
          by_cases h4 : o.what = 4
          · have w4 : (o.what == 4) = true := by simp [h4]
            clear h4
            have HMAY := Lib.hid (PgS.may_in HQ.out.1 (by rw [H1.out.len]; exact HQ.out.2))
            have HTK := Lib.hid (H1.out.knows.tk q HQ.out.1 (by rw [H1.out.len]; exact HQ.out.2))
            have HGV := Lib.hid (H1.out.snd.give (q : Int))
            have HKN := Lib.hid (H1.out.knows.give (by rw [H1.out.len]; exact HQ.out.2 : q < P.pages))
            have qn : q < n := HQ.out.2
            cases htk : P.now.taken q with
            | false =>
              have hp : P.give (q : Int) = (91, P) := by unfold PgS.give; rw [HMAY.out, htk, if_pos (by simp), if_neg (by simp)]
              have HP2 := Lib.hid hp
              rw [htk] at HTK
              clear hp htk
              go_upto_region 30 with (go_at_call 13; refine (pgive_any H1.out.pat H1.out.snd.ok _).mono ?_; rintro e w5 ⟨rfl, h5, t5⟩; rw [HP2.out] at h5 ⊢; have P5 := Lib.hid h5; have T5 := Lib.hid t5; clear h5 t5)
              have WA5 := Lib.hid (H1.out.paged (fun k hk => by simp only [List.mem_cons, List.not_mem_nil, or_false] at hk ⊢; omega) T5.out)
              have c0 := WA5.out.c0
              have ch := WA5.out.hh.cell HTK.out
              go_wp2_with fail
              go_ret
              exact ⟨rfl, HEND.out W P w5 ⟨WA5.out, P5.out, H1.out.snd, H1.out.knows, H1.out.len, H1.out.sep⟩ rfl rfl (T5.out.mono (by simp))⟩
            | true =>
              cases isr with
              | true =>
                have hp : P.give (q : Int) = (92, P) := by unfold PgS.give; rw [HMAY.out, htk, if_neg (by simp), if_pos HISR.out]
                have HP2 := Lib.hid hp
                rw [htk] at HTK
                clear hp htk
                go_upto_region 30 with (go_at_call 13; refine (pgive_any H1.out.pat H1.out.snd.ok _).mono ?_; rintro e w5 ⟨rfl, h5, t5⟩; rw [HP2.out] at h5 ⊢; have P5 := Lib.hid h5; have T5 := Lib.hid t5; clear h5 t5)
                have WA5 := Lib.hid (H1.out.paged (fun k hk => by simp only [List.mem_cons, List.not_mem_nil, or_false] at hk ⊢; omega) T5.out)
                have c0 := WA5.out.c0
                have ch := WA5.out.hh.cell HTK.out
                go_wp2_with fail
                go_ret
                exact ⟨rfl, HEND.out W P w5 ⟨WA5.out, P5.out, H1.out.snd, H1.out.knows, H1.out.len, H1.out.sep⟩ rfl rfl (T5.out.mono (by simp))⟩
              | false =>
                have hp : P.give (q : Int) = (0, { P with now := P.now.set q false, over := fun j => if j = (q : Int) then none else P.over j }) := by unfold PgS.give; rw [HMAY.out, htk, if_neg (by simp), if_neg (by rw [HISR.out]; simp)]; rfl
                rw [hp] at HGV
                obtain ⟨P2, hP2⟩ : ∃ P2 : PgS, { P with now := P.now.set q false, over := fun j => if j = (q : Int) then none else P.over j } = P2 := ⟨_, rfl⟩
                have HLG : Hid (P2.log = P.log ∧ P2.last = P.last ∧ P2.pages = P.pages) := by rw [← hP2]; exact ⟨rfl, rfl, rfl⟩
                simp only [hP2] at hp HGV HKN
                have HP2 := Lib.hid hp
                rw [htk] at HTK
                clear hp htk hP2
                go_upto_region 30 with (go_at_call 13; refine (pgive_any H1.out.pat H1.out.snd.ok _).mono ?_; rintro e w5 ⟨rfl, h5, t5⟩; rw [HP2.out] at h5 ⊢; have P5 := Lib.hid h5; have T5 := Lib.hid t5; clear h5 t5)
                have WA5 := Lib.hid (H1.out.paged (fun k hk => by simp only [List.mem_cons, List.not_mem_nil, or_false] at hk ⊢; omega) T5.out)
                have c0 := WA5.out.c0
                have ch := WA5.out.hh.cell HTK.out
                have fh := WA5.out.hh.froz q
                have tc : Tch [hb] w5 (w5.setCell ⟨hb, q, none⟩ (.bool false)) := (Tch.refl _ _).setCell (by simp) _
                have TC := Lib.hid tc
                clear tc
                go_wp2_with fail
                go_ret
                exact ⟨rfl, HEND.out (W.gave q) P2 _ ⟨WA5.out.mark q false, pg_apart H1.out.sep (X := [hb]) (by simp) TC.out P5.out, HGV.out, HKN.out, HLG.out.2.2.trans LEN.out, H1.out.sep⟩ HLG.out.1 HLG.out.2.1 ((T5.out.mono (S' := [p, Mo, x, hb, pb]) (by simp)).trans (TC.out.mono (by simp)))⟩
          · have w4 : (o.what == 4) = false := by simpa using h4
            clear h4
            by_cases h6 : o.what = 6
            · have w6 : (o.what == 6) = true := by simp [h6]
              clear h6
              have HMAY := Lib.hid (PgS.may_in HQ.out.1 (by rw [H1.out.len]; exact HQ.out.2))
              have HTK := Lib.hid (H1.out.knows.tk q HQ.out.1 (by rw [H1.out.len]; exact HQ.out.2))
              have HSR := Lib.hid (H1.out.snd.setRoot (ri : Int) (q : Int))
              have HKN := Lib.hid (H1.out.knows.root ri q)
              have qn : q < n := HQ.out.2
              have r8 : ri < 8 := HRI.out.2
              have hq0 : ¬ ((q : Int) = 0) := by have := HQ.out.1; omega
              have HQ0 := Lib.hid hq0
              clear hq0
              cases htk : P.now.taken q with
              | false =>
                have hp : P.setRoot (ri : Int) (q : Int) = (91, P) := by unfold PgS.setRoot; rw [HMAY.out, htk, if_neg (by omega), if_pos ⟨HQ0.out, by simp⟩, if_neg (by simp)]
                have HP2 := Lib.hid hp
                rw [htk] at HTK
                clear hp htk
                go_upto_region 36 with (go_at_call 29; refine (psetRoot_any H1.out.pat H1.out.snd.ok _ _).mono ?_; rintro e w5 ⟨rfl, h5, t5⟩; rw [HP2.out] at h5 ⊢; have P5 := Lib.hid h5; have T5 := Lib.hid t5; clear h5 t5)
                have WA5 := Lib.hid (H1.out.paged (fun k hk => by simp only [List.mem_cons, List.not_mem_nil, or_false] at hk ⊢; omega) T5.out)
                have c0 := WA5.out.c0
                have ch := WA5.out.hh.cell HTK.out
                go_wp2_with fail
                go_ret
                exact ⟨rfl, HEND.out W P w5 ⟨WA5.out, P5.out, H1.out.snd, H1.out.knows, H1.out.len, H1.out.sep⟩ rfl rfl (T5.out.mono (by simp))⟩
              | true =>
                have hp : P.setRoot (ri : Int) (q : Int) = (0, { P with now := P.now.setRoot ri q }) := by unfold PgS.setRoot; rw [HMAY.out, htk, if_neg (by omega), if_neg (by simp)]; rfl
                rw [hp] at HSR
                obtain ⟨P2, hP2⟩ : ∃ P2 : PgS, { P with now := P.now.setRoot ri q } = P2 := ⟨_, rfl⟩
                have HLG : Hid (P2.log = P.log ∧ P2.last = P.last ∧ P2.pages = P.pages) := by rw [← hP2]; exact ⟨rfl, rfl, rfl⟩
                simp only [hP2] at hp HSR HKN
                have HP2 := Lib.hid hp
                rw [htk] at HTK
                clear hp htk hP2
                go_upto_region 36 with (go_at_call 29; refine (psetRoot_any H1.out.pat H1.out.snd.ok _ _).mono ?_; rintro e w5 ⟨rfl, h5, t5⟩; rw [HP2.out] at h5 ⊢; have P5 := Lib.hid h5; have T5 := Lib.hid t5; clear h5 t5)
                have WA5 := Lib.hid (H1.out.paged (fun k hk => by simp only [List.mem_cons, List.not_mem_nil, or_false] at hk ⊢; omega) T5.out)
                have c0 := WA5.out.c0
                have ch := WA5.out.hh.cell HTK.out
                have cr := WA5.out.cR HRI.out.2
                have fr := frozen_of_row w5 x (2 + ri) _ _ WA5.out.hx
                have tc : Tch [x] w5 (w5.setCell ⟨x, 2 + ri, none⟩ (.int .i64 q)) := (Tch.refl _ _).setCell (by simp) _
                have TC := Lib.hid tc
                clear tc
                go_wp2_with fail
                go_ret
                exact ⟨rfl, HEND.out (W.rooted ri q) P2 _ ⟨WA5.out.rooted HRI.out.2 q, pg_apart H1.out.sep (X := [x]) (by simp) TC.out P5.out, HSR.out, HKN.out, HLG.out.2.2.trans LEN.out, H1.out.sep⟩ HLG.out.1 HLG.out.2.1 ((T5.out.mono (S' := [p, Mo, x, hb, pb]) (by simp)).trans (TC.out.mono (by simp)))⟩
            · have w6 : (o.what == 6) = false := by simpa using h6
              clear h6
              by_cases h5 : o.what = 5
              · have w5 : (o.what == 5) = true := by simp [h5]
                clear h5
                have HSR := Lib.hid (H1.out.snd.setRoot (ri : Int) 0)
                have HKN := Lib.hid (H1.out.knows.root ri 0)
                have r8 : ri < 8 := HRI.out.2
                have hp : P.setRoot (ri : Int) 0 = (0, { P with now := P.now.setRoot ri 0 }) := by unfold PgS.setRoot; rw [if_neg (by omega), if_neg (by simp)]; rfl
                rw [hp] at HSR
                obtain ⟨P2, hP2⟩ : ∃ P2 : PgS, { P with now := P.now.setRoot ri 0 } = P2 := ⟨_, rfl⟩
                have HLG : Hid (P2.log = P.log ∧ P2.last = P.last ∧ P2.pages = P.pages) := by rw [← hP2]; exact ⟨rfl, rfl, rfl⟩
                simp only [hP2] at hp HSR HKN
                have HP2 := Lib.hid hp
                clear hp hP2
                go_upto_region 43 with (go_at_call 29; refine (psetRoot_any H1.out.pat H1.out.snd.ok _ _).mono ?_; rintro e w5 ⟨rfl, h5, t5⟩; rw [HP2.out] at h5 ⊢; have P5 := Lib.hid h5; have T5 := Lib.hid t5; clear h5 t5)
                have WA5 := Lib.hid (H1.out.paged (fun k hk => by simp only [List.mem_cons, List.not_mem_nil, or_false] at hk ⊢; omega) T5.out)
                have cr := WA5.out.cR HRI.out.2
                have fr := frozen_of_row w5 x (2 + ri) _ _ WA5.out.hx
                have tc : Tch [x] w5 (w5.setCell ⟨x, 2 + ri, none⟩ (.int .i64 0)) := (Tch.refl _ _).setCell (by simp) _
                have TC := Lib.hid tc
                have WA6 : Hid (WAt (w5.setCell ⟨x, 2 + ri, none⟩ (.int .i64 0)) x hb hc pb pc n (W.rooted ri 0)) := WA5.out.rooted HRI.out.2 0
                clear tc
                go_wp2_with fail
                go_ret
                exact ⟨rfl, HEND.out (W.rooted ri 0) P2 _ ⟨WA6.out, pg_apart H1.out.sep (X := [x]) (by simp) TC.out P5.out, HSR.out, HKN.out, HLG.out.2.2.trans LEN.out, H1.out.sep⟩ HLG.out.1 HLG.out.2.1 ((T5.out.mono (S' := [p, Mo, x, hb, pb]) (by simp)).trans (TC.out.mono (by simp)))⟩
              · have w5 : (o.what == 5) = false := by simpa using h5
                clear h5
                go_wp2_with fail
                go_ret
                exact ⟨rfl, HEND.out W P wr H1.out rfl rfl (Tch.refl _ _)⟩
end Go.Proofs.YtkjgbhpnlgcinaaGreatDoor
/-
  Do the pages say what the holder knows? (*ciboriumlaw09.world).holds.
-/
namespace Go.Cib
open Go Go.RowKit
theorem StS.free_step (s : StS) (j : Nat) : s.free (j + 1) = s.free j + (if s.taken j = true then 0 else 1) := by
  unfold StS.free
  rw [List.range_succ, List.filter_append, List.length_append]
  cases h : s.taken j <;> simp [h]
theorem StS.free_two (s : StS) (h0 : s.taken 0 = true) (h1 : s.taken 1 = true) : s.free 2 = 0 := by
  rw [free_step, free_step]
  simp only [h0, h1, if_true]
  rfl
theorem StS.free_le (s : StS) (j : Nat) : s.free j ≤ j := by
  unfold StS.free
  exact Nat.le_trans (List.length_filter_le _ _) (by simp)
/-- What has been held against one another, up to the j-th page. -/
def HoldS.Upto (W : HoldS) (P : PgS) (base : Nat → Page) (j : Nat) : Prop := ∀ k, 2 ≤ k → k < j → W.have_[k]? = some (P.now.taken k) ∧ (P.now.taken k = true → W.pages[k]? = some (P.cur base k))
end Go.Cib
namespace Go.Proofs.YtkjgbhpnlgcinaaGreatDoor
open Go.RowKit Go.Cib
theorem cf_taken9 (args : Array Value) (w : World) : (callFunc 26 args).run Tryz.prog w = .ok (.enter 26 args) w := by kernel_rfl
theorem cf_pages9 (args : Array Value) (w : World) : (callFunc 16 args).run Tryz.prog w = .ok (.enter 16 args) w := by kernel_rfl
set_option maxRecDepth 20000 in
set_option maxHeartbeats 4000000 in
theorem holds9_any {w : World} {x hb hc pb pc n p g d L M V Mo : Nat} {W : HoldS} {P : PgS} {base : Nat → Page} (hwa : WAt w x hb hc pb pc n W) (hpa : PgAt w p g d L M V Mo P) (hs : P.Snd base) (hlen : P.pages = n) (hn : 3 ≤ n ∧ n ≤ 3840) (sep : ∀ k ∈ [x, hb, pb], k ∉ 0 :: pgB p g d L M V Mo) :
    Calls Tryz.prog 21 #[.pointer (some ⟨x, 0, none⟩), .pointer (some ⟨p, 0, none⟩)] w fun e w' =>
      ∃ b, e = .returned (.bool b) ∧ (b = true ↔ W.Knows P base) ∧ WAt w' x hb hc pb pc n W ∧ PgAt w' p g d L M V Mo P ∧ Tch [g] w w' := by
  have HW := Lib.hid hwa
  have HP := Lib.hid hpa
  have HS := Lib.hid hs
  have HL := Lib.hid hlen
  have HN := Lib.hid hn
  have SEP := Lib.hid sep
  have CPS : Hid (∀ w', Tch [] w w' → Calls Tryz.prog 16 #[.pointer (some ⟨p, 0, none⟩)] w' fun e w'' => e = .returned (.int .i64 n) ∧ Tch [] w w'') := fun w' ht => (ppages_any (hpa.old ht)).mono fun e w'' ⟨a1, a2⟩ => ⟨by rw [a1, hlen], a2 ▸ ht⟩
  have C0 : Hid (∀ w', Tch [] w w' → w'.cell? ⟨x, 0, none⟩ = some (.slice (some ⟨hb, 0, none⟩) n hc)) := fun w' ht => cell_old ht hwa.c0
  clear hwa hpa hs hlen hn sep
  go_enter Tryz.func21, Tryz.ntmps21
  go_upto_region 1 with fail
  refine wp_region_walk (C := fun w' => Tch [] w w') 12 (by kernel_rfl) (by kernel_rfl) ((Tch.refl _ _).drew) ?_
  simp only [List.take_succ_cons, List.take_zero, List.drop_succ_cons, List.drop_nil]
  (repeat (first
    | ((with_reducible refine wq_fn cf_pages9 ?_ ?_ CPS.out ?_); exact rfl; exact rfl; go_frame)
    | ((with_reducible refine wq_load_cell (by kernel_rfl) C0.out ?_ ?_ ?_); exact rfl; exact rfl; go_frame)
    | go_big_quiet_skip | (go_big_quiet_want; go_big_quiet_op; first | go_big_quiet_on | (refine ⟨_, fun _ _ => rfl, ?_⟩; go_big_quiet_on))))
  refine wpQuiet_nil ?_
  intro w1 t1
  have HW1 := Lib.hid (HW.out.old t1)
  have HP1 := Lib.hid (HP.out.old t1)
  have T1 := Lib.hid t1
  clear t1 HW HP CPS C0
  go_wp2_with fail
  go_loopg [5, 6] (n - 2) (fun k f i wr => ∃ j, 2 ≤ j ∧ j ≤ n ∧ i = .int .i64 j ∧ k = n - j ∧ f = .int .i64 (P.now.free j) ∧ W.Upto P base j ∧ WAt wr x hb hc pb pc n W ∧ PgAt wr p g d L M V Mo P ∧ Tch [g] w wr)
  case atStart => exact ⟨2, Nat.le_refl _, by have := HN.out.1; omega, rfl, rfl, by rw [P.now.free_two HS.out.good.t0 HS.out.good.t1]; rfl, fun k h1 h2 => by omega, HW1.out, HP1.out, T1.out.mono (by simp)⟩
  case round =>
    clear HW1 HP1 T1
    obtain ⟨j, hj2, hj, rfl, rfl, rfl, hup, hw, hp, ht⟩ := hrel
    have HW := Lib.hid hw
    have HP := Lib.hid hp
    have UP := Lib.hid hup
    have T := Lib.hid ht
    clear hw hp hup ht
    have hn2 := HN.out.2
    have c0 := HW.out.c0
    by_cases hjn : j < n
    · obtain ⟨b, hb_⟩ : ∃ b, W.have_[j]? = some b := ⟨_, List.getElem?_eq_getElem (by rw [HW.out.l1]; exact hjn)⟩
      obtain ⟨y, hy⟩ : ∃ y, W.pages[j]? = some y := ⟨_, List.getElem?_eq_getElem (by rw [HW.out.l2]; exact hjn)⟩
      have hjp : j < P.pages := by rw [HL.out]; exact hjn
      have hge := HS.out.get j
      rw [PgS.may_in hj2 hjp] at hge
      have hit : PgS.isTaken P (j : Int) = P.now.taken j := by unfold PgS.isTaken; rw [decide_eq_true (show (0 : Int) ≤ j by omega), decide_eq_true (show (j : Int) < P.pages by omega)]; rfl
      have hk1 : W.Knows P base → W.have_[j]? = some (P.now.taken j) := fun hk => hk.tk j hj2 hjp
      have hk2 : W.Knows P base → P.now.taken j = true → W.pages[j]? = some (P.cur base j) := fun hk => hk.pg j hj2 hjp
      rw [hb_] at hk1
      rw [hy] at hk2
      have HB := Lib.hid hb_
      have HY := Lib.hid hy
      cases htk : P.now.taken j with
      | true =>
        rw [htk] at hge hit hk1
        rw [if_pos rfl, if_pos rfl] at hge
        have hk2 := fun hk => hk2 hk htk
        have GE := Lib.hid hge
        have IT := Lib.hid hit
        have TKH := Lib.hid htk
        obtain ⟨z, hz⟩ : ∃ z, P.cur base j = z := ⟨_, rfl⟩
        rw [hz] at GE hk2
        cases b with
        | true =>
          by_cases hzy : z = y
          · have HZZ : Hid (decide (z = y) = true) := decide_eq_true hzy
            have GOOD : Hid (W.have_[j]? = some (P.now.taken j) ∧ (P.now.taken j = true → W.pages[j]? = some (P.cur base j))) := ⟨by rw [HB.out, TKH.out], fun _ => by rw [HY.out, hz, hzy]⟩
            clear hz hzy hge hit hk1 hk2 hb_ hy htk hjp
            go_upto_region 8 with (first | (go_at_call 23; refine (pget_any HP.out HS.out.ok (j : Int)).mono ?_; rintro e w5 ⟨rfl, h5, t5⟩; rw [GE.out] at h5 ⊢; have P5 := Lib.hid h5; have T5 := Lib.hid t5; clear h5 t5) | ((with_reducible refine wc_alloc_arr pageT ?_); go_frame; (try simp only [World.size_alloc])) | ((with_reducible apply wc_store_new pageT); exact rfl; exact rfl; go_frame))
            have ta : Tch [] w5 (w5.alloc (.cells (secA z) 54)) := (Tch.refl _ _).alloc _
            have X6 : Hid ((w5.alloc (.cells (secA z) 54)).heap[w5.heap.size]? = some (.cells (secA z) 54)) := heap_alloc_new _ _
            have W6 := Lib.hid ((HW.out.touch T5.out (by have := SEP.out x (by simp); simp at this ⊢; omega) (by have := SEP.out hb (by simp); simp at this ⊢; omega) (by have := SEP.out pb (by simp); simp at this ⊢; omega)).old ta)
            have P6 := Lib.hid (P5.out.old ta)
            have T6 := Lib.hid ((T.out.trans T5.out).trans (ta.mono (by simp)))
            clear ta P5 T5 c0
            generalize w5.alloc (.cells (secA z) 54) = w6 at *
            generalize w5.heap.size = X at *
            have CT : Hid (∀ w', Tch [] w6 w' → Calls Tryz.prog 26 #[.pointer (some ⟨p, 0, none⟩), .int .i64 j] w' fun e w'' => e = .returned (.bool true) ∧ Tch [] w6 w'') := fun w' ht => (ptaken_any (P6.out.old ht) HS.out.ok (j : Int)).mono fun e w'' ⟨a1, a2⟩ => ⟨by rw [a1, IT.out], a2 ▸ ht⟩
            have C0 : Hid (∀ w', Tch [] w6 w' → w'.cell? ⟨x, 0, none⟩ = some (.slice (some ⟨hb, 0, none⟩) n hc)) := fun w' ht => cell_old ht W6.out.c0
            have C1 : Hid (∀ w', Tch [] w6 w' → w'.cell? ⟨x, 1, none⟩ = some (.slice (some ⟨pb, 0, none⟩) n pc)) := fun w' ht => cell_old ht W6.out.c1
            have CH : Hid (∀ w', Tch [] w6 w' → w'.cell? ⟨hb, j, none⟩ = some (.bool true)) := fun w' ht => cell_old ht (W6.out.hh.cell HB.out)
            have CX : Hid (∀ w', Tch [] w6 w' → w'.heap[X]? = some (.cells (secA z) 54)) := fun w' ht => ht.heap X6.out (by simp)
            have CS : Hid (∀ w', Tch [] w6 w' → SecsIn w' pb W.pages) := fun w' ht => W6.out.hp.touch ht (by simp)
            refine wp_region_walk (C := fun w' => Tch [] w6 w') 43 (by kernel_rfl) (by kernel_rfl) ((Tch.refl _ _).drew) ?_
            simp only [List.take_succ_cons, List.take_zero, List.drop_succ_cons, List.drop_nil]
            (repeat (first
              | ((with_reducible refine wq_fn cf_taken9 ?_ ?_ CT.out ?_); exact rfl; exact rfl; go_frame)
              | ((with_reducible refine wq_load_cell (by kernel_rfl) C0.out ?_ ?_ ?_); exact rfl; exact rfl; go_frame)
              | ((with_reducible refine wq_load_cell (by kernel_rfl) C1.out ?_ ?_ ?_); exact rfl; exact rfl; go_frame)
              | ((with_reducible refine wq_load_cell (by kernel_rfl) CH.out ?_ ?_ ?_); exact rfl; exact rfl; go_frame)
              | ((with_reducible refine wq_load_var pageT CX.out ?_ ?_ ?_); exact rfl; exact rfl; go_frame)
              | ((with_reducible refine wq_load_in pageT CS.out HY.out ?_ ?_ ?_); exact rfl; exact rfl; go_frame)
              | ((with_reducible refine wq_neq_arr pageT (s := z) (t := y) ?_ ?_ ?_ ?_); exact rfl; exact rfl; exact rfl; rw [HZZ.out]; go_frame)
              | go_big_quiet_skip | (go_big_quiet_want; go_big_quiet_op; first | go_big_quiet_on | (refine ⟨_, fun _ _ => rfl, ?_⟩; go_big_quiet_on))))
            refine wpQuiet_nil ?_
            intro w7 t7
            have W7 := Lib.hid (W6.out.old t7)
            have P7 := Lib.hid (P6.out.old t7)
            have T7 := Lib.hid (T6.out.trans (t7.mono (by simp)))
            clear t7 CT C0 C1 CH CX CS W6 P6 T6
            have ch7 := W7.out.hh.cell HB.out
            have c07 := W7.out.c0
            go_wp2_with fail
            go_roundg (n - (j + 1))
            case measure => omega
            case rel =>
              refine ⟨j + 1, by omega, by omega, by first | rfl | go_num, rfl, ?_, ?_, W7.out, P7.out, T7.out⟩
              · have fl := P.now.free_le j
                rw [P.now.free_step j, TKH.out]
                first | rfl | (congr 1; unfold wrap64; simp; omega) | (congr 1; simp)
              · intro k h2 hk
                by_cases e : k = j
                · subst e; exact GOOD.out
                · exact UP.out k h2 (by omega)
          · have HZZ : Hid (decide (z = y) = false) := decide_eq_false hzy
            have BAD : Hid (¬ W.Knows P base) := fun hk => hzy (Option.some.inj (hk2 hk)).symm
            clear hz hzy hge hit hk1 hk2 hb_ hy htk hjp
            go_upto_region 8 with (first | (go_at_call 23; refine (pget_any HP.out HS.out.ok (j : Int)).mono ?_; rintro e w5 ⟨rfl, h5, t5⟩; rw [GE.out] at h5 ⊢; have P5 := Lib.hid h5; have T5 := Lib.hid t5; clear h5 t5) | ((with_reducible refine wc_alloc_arr pageT ?_); go_frame; (try simp only [World.size_alloc])) | ((with_reducible apply wc_store_new pageT); exact rfl; exact rfl; go_frame))
            have ta : Tch [] w5 (w5.alloc (.cells (secA z) 54)) := (Tch.refl _ _).alloc _
            have X6 : Hid ((w5.alloc (.cells (secA z) 54)).heap[w5.heap.size]? = some (.cells (secA z) 54)) := heap_alloc_new _ _
            have W6 := Lib.hid ((HW.out.touch T5.out (by have := SEP.out x (by simp); simp at this ⊢; omega) (by have := SEP.out hb (by simp); simp at this ⊢; omega) (by have := SEP.out pb (by simp); simp at this ⊢; omega)).old ta)
            have P6 := Lib.hid (P5.out.old ta)
            have T6 := Lib.hid ((T.out.trans T5.out).trans (ta.mono (by simp)))
            clear ta P5 T5 c0
            generalize w5.alloc (.cells (secA z) 54) = w6 at *
            generalize w5.heap.size = X at *
            have CT : Hid (∀ w', Tch [] w6 w' → Calls Tryz.prog 26 #[.pointer (some ⟨p, 0, none⟩), .int .i64 j] w' fun e w'' => e = .returned (.bool true) ∧ Tch [] w6 w'') := fun w' ht => (ptaken_any (P6.out.old ht) HS.out.ok (j : Int)).mono fun e w'' ⟨a1, a2⟩ => ⟨by rw [a1, IT.out], a2 ▸ ht⟩
            have C0 : Hid (∀ w', Tch [] w6 w' → w'.cell? ⟨x, 0, none⟩ = some (.slice (some ⟨hb, 0, none⟩) n hc)) := fun w' ht => cell_old ht W6.out.c0
            have C1 : Hid (∀ w', Tch [] w6 w' → w'.cell? ⟨x, 1, none⟩ = some (.slice (some ⟨pb, 0, none⟩) n pc)) := fun w' ht => cell_old ht W6.out.c1
            have CH : Hid (∀ w', Tch [] w6 w' → w'.cell? ⟨hb, j, none⟩ = some (.bool true)) := fun w' ht => cell_old ht (W6.out.hh.cell HB.out)
            have CX : Hid (∀ w', Tch [] w6 w' → w'.heap[X]? = some (.cells (secA z) 54)) := fun w' ht => ht.heap X6.out (by simp)
            have CS : Hid (∀ w', Tch [] w6 w' → SecsIn w' pb W.pages) := fun w' ht => W6.out.hp.touch ht (by simp)
            refine wp_region_walk (C := fun w' => Tch [] w6 w') 43 (by kernel_rfl) (by kernel_rfl) ((Tch.refl _ _).drew) ?_
            simp only [List.take_succ_cons, List.take_zero, List.drop_succ_cons, List.drop_nil]
            (repeat (first
              | ((with_reducible refine wq_fn cf_taken9 ?_ ?_ CT.out ?_); exact rfl; exact rfl; go_frame)
              | ((with_reducible refine wq_load_cell (by kernel_rfl) C0.out ?_ ?_ ?_); exact rfl; exact rfl; go_frame)
              | ((with_reducible refine wq_load_cell (by kernel_rfl) C1.out ?_ ?_ ?_); exact rfl; exact rfl; go_frame)
              | ((with_reducible refine wq_load_cell (by kernel_rfl) CH.out ?_ ?_ ?_); exact rfl; exact rfl; go_frame)
              | ((with_reducible refine wq_load_var pageT CX.out ?_ ?_ ?_); exact rfl; exact rfl; go_frame)
              | ((with_reducible refine wq_load_in pageT CS.out HY.out ?_ ?_ ?_); exact rfl; exact rfl; go_frame)
              | ((with_reducible refine wq_neq_arr pageT (s := z) (t := y) ?_ ?_ ?_ ?_); exact rfl; exact rfl; exact rfl; rw [HZZ.out, Bool.not_false]; go_frame)
              | go_big_quiet_skip | (go_big_quiet_want; go_big_quiet_op; first | go_big_quiet_on | (refine ⟨_, fun _ _ => rfl, ?_⟩; go_big_quiet_on))))
            refine wpQuiet_nil ?_
            intro w7 t7
            have W7 := Lib.hid (W6.out.old t7)
            have P7 := Lib.hid (P6.out.old t7)
            have T7 := Lib.hid (T6.out.trans (t7.mono (by simp)))
            clear t7 CT C0 C1 CH CX CS W6 P6 T6
            go_wp2_with fail
            go_ret
            exact ⟨false, rfl, ⟨(fun hh => by cases hh), fun hh => absurd hh BAD.out⟩, W7.out, P7.out, T7.out⟩
        | false =>
          have HZZ : Hid (decide (z = y) = decide (z = y)) := rfl
          have BAD : Hid (¬ W.Knows P base) := fun hk => by have := hk1 hk; cases this
          clear hz hge hit hk1 hk2 hb_ hy htk hjp
          go_upto_region 8 with (first | (go_at_call 23; refine (pget_any HP.out HS.out.ok (j : Int)).mono ?_; rintro e w5 ⟨rfl, h5, t5⟩; rw [GE.out] at h5 ⊢; have P5 := Lib.hid h5; have T5 := Lib.hid t5; clear h5 t5) | ((with_reducible refine wc_alloc_arr pageT ?_); go_frame; (try simp only [World.size_alloc])) | ((with_reducible apply wc_store_new pageT); exact rfl; exact rfl; go_frame))
          have ta : Tch [] w5 (w5.alloc (.cells (secA z) 54)) := (Tch.refl _ _).alloc _
          have X6 : Hid ((w5.alloc (.cells (secA z) 54)).heap[w5.heap.size]? = some (.cells (secA z) 54)) := heap_alloc_new _ _
          have W6 := Lib.hid ((HW.out.touch T5.out (by have := SEP.out x (by simp); simp at this ⊢; omega) (by have := SEP.out hb (by simp); simp at this ⊢; omega) (by have := SEP.out pb (by simp); simp at this ⊢; omega)).old ta)
          have P6 := Lib.hid (P5.out.old ta)
          have T6 := Lib.hid ((T.out.trans T5.out).trans (ta.mono (by simp)))
          clear ta P5 T5 c0
          generalize w5.alloc (.cells (secA z) 54) = w6 at *
          generalize w5.heap.size = X at *
          have CT : Hid (∀ w', Tch [] w6 w' → Calls Tryz.prog 26 #[.pointer (some ⟨p, 0, none⟩), .int .i64 j] w' fun e w'' => e = .returned (.bool true) ∧ Tch [] w6 w'') := fun w' ht => (ptaken_any (P6.out.old ht) HS.out.ok (j : Int)).mono fun e w'' ⟨a1, a2⟩ => ⟨by rw [a1, IT.out], a2 ▸ ht⟩
          have C0 : Hid (∀ w', Tch [] w6 w' → w'.cell? ⟨x, 0, none⟩ = some (.slice (some ⟨hb, 0, none⟩) n hc)) := fun w' ht => cell_old ht W6.out.c0
          have C1 : Hid (∀ w', Tch [] w6 w' → w'.cell? ⟨x, 1, none⟩ = some (.slice (some ⟨pb, 0, none⟩) n pc)) := fun w' ht => cell_old ht W6.out.c1
          have CH : Hid (∀ w', Tch [] w6 w' → w'.cell? ⟨hb, j, none⟩ = some (.bool false)) := fun w' ht => cell_old ht (W6.out.hh.cell HB.out)
          have CX : Hid (∀ w', Tch [] w6 w' → w'.heap[X]? = some (.cells (secA z) 54)) := fun w' ht => ht.heap X6.out (by simp)
          have CS : Hid (∀ w', Tch [] w6 w' → SecsIn w' pb W.pages) := fun w' ht => W6.out.hp.touch ht (by simp)
          refine wp_region_walk (C := fun w' => Tch [] w6 w') 43 (by kernel_rfl) (by kernel_rfl) ((Tch.refl _ _).drew) ?_
          simp only [List.take_succ_cons, List.take_zero, List.drop_succ_cons, List.drop_nil]
          (repeat (first
            | ((with_reducible refine wq_fn cf_taken9 ?_ ?_ CT.out ?_); exact rfl; exact rfl; go_frame)
            | ((with_reducible refine wq_load_cell (by kernel_rfl) C0.out ?_ ?_ ?_); exact rfl; exact rfl; go_frame)
            | ((with_reducible refine wq_load_cell (by kernel_rfl) C1.out ?_ ?_ ?_); exact rfl; exact rfl; go_frame)
            | ((with_reducible refine wq_load_cell (by kernel_rfl) CH.out ?_ ?_ ?_); exact rfl; exact rfl; go_frame)
            | ((with_reducible refine wq_load_var pageT CX.out ?_ ?_ ?_); exact rfl; exact rfl; go_frame)
            | ((with_reducible refine wq_load_in pageT CS.out HY.out ?_ ?_ ?_); exact rfl; exact rfl; go_frame)
            | ((with_reducible refine wq_neq_arr pageT (s := z) (t := y) ?_ ?_ ?_ ?_); exact rfl; exact rfl; exact rfl; rw [HZZ.out]; go_frame)
            | go_big_quiet_skip | (go_big_quiet_want; go_big_quiet_op; first | go_big_quiet_on | (refine ⟨_, fun _ _ => rfl, ?_⟩; go_big_quiet_on))))
          refine wpQuiet_nil ?_
          intro w7 t7
          have W7 := Lib.hid (W6.out.old t7)
          have P7 := Lib.hid (P6.out.old t7)
          have T7 := Lib.hid (T6.out.trans (t7.mono (by simp)))
          clear t7 CT C0 C1 CH CX CS W6 P6 T6
          go_wp2_with fail
          go_ret
          exact ⟨false, rfl, ⟨(fun hh => by cases hh), fun hh => absurd hh BAD.out⟩, W7.out, P7.out, T7.out⟩
      | false =>
        rw [htk] at hge hit hk1
        rw [if_neg (by simp), if_neg (by simp)] at hge
        have GE := Lib.hid hge
        have IT := Lib.hid hit
        have TKH := Lib.hid htk
        have HZZ : Hid (decide ((Arr.zero : Page) = y) = decide ((Arr.zero : Page) = y)) := rfl
        cases b with
        | true =>
          have BAD : Hid (¬ W.Knows P base) := fun hk => by have := hk1 hk; cases this
          clear hge hit hk1 hk2 hb_ hy htk hjp
          go_upto_region 8 with (first | (go_at_call 23; refine (pget_any HP.out HS.out.ok (j : Int)).mono ?_; rintro e w5 ⟨rfl, h5, t5⟩; rw [GE.out] at h5 ⊢; have P5 := Lib.hid h5; have T5 := Lib.hid t5; clear h5 t5) | ((with_reducible refine wc_alloc_arr pageT ?_); go_frame; (try simp only [World.size_alloc])) | ((with_reducible apply wc_store_new pageT); exact rfl; exact rfl; go_frame))
          have ta : Tch [] w5 (w5.alloc (.cells (secA (Arr.zero : Page)) 54)) := (Tch.refl _ _).alloc _
          have X6 : Hid ((w5.alloc (.cells (secA (Arr.zero : Page)) 54)).heap[w5.heap.size]? = some (.cells (secA (Arr.zero : Page)) 54)) := heap_alloc_new _ _
          have W6 := Lib.hid ((HW.out.touch T5.out (by have := SEP.out x (by simp); simp at this ⊢; omega) (by have := SEP.out hb (by simp); simp at this ⊢; omega) (by have := SEP.out pb (by simp); simp at this ⊢; omega)).old ta)
          have P6 := Lib.hid (P5.out.old ta)
          have T6 := Lib.hid ((T.out.trans T5.out).trans (ta.mono (by simp)))
          clear ta P5 T5 c0
          generalize w5.alloc (.cells (secA (Arr.zero : Page)) 54) = w6 at *
          generalize w5.heap.size = X at *
          have CT : Hid (∀ w', Tch [] w6 w' → Calls Tryz.prog 26 #[.pointer (some ⟨p, 0, none⟩), .int .i64 j] w' fun e w'' => e = .returned (.bool false) ∧ Tch [] w6 w'') := fun w' ht => (ptaken_any (P6.out.old ht) HS.out.ok (j : Int)).mono fun e w'' ⟨a1, a2⟩ => ⟨by rw [a1, IT.out], a2 ▸ ht⟩
          have C0 : Hid (∀ w', Tch [] w6 w' → w'.cell? ⟨x, 0, none⟩ = some (.slice (some ⟨hb, 0, none⟩) n hc)) := fun w' ht => cell_old ht W6.out.c0
          have C1 : Hid (∀ w', Tch [] w6 w' → w'.cell? ⟨x, 1, none⟩ = some (.slice (some ⟨pb, 0, none⟩) n pc)) := fun w' ht => cell_old ht W6.out.c1
          have CH : Hid (∀ w', Tch [] w6 w' → w'.cell? ⟨hb, j, none⟩ = some (.bool true)) := fun w' ht => cell_old ht (W6.out.hh.cell HB.out)
          have CX : Hid (∀ w', Tch [] w6 w' → w'.heap[X]? = some (.cells (secA (Arr.zero : Page)) 54)) := fun w' ht => ht.heap X6.out (by simp)
          have CS : Hid (∀ w', Tch [] w6 w' → SecsIn w' pb W.pages) := fun w' ht => W6.out.hp.touch ht (by simp)
          refine wp_region_walk (C := fun w' => Tch [] w6 w') 43 (by kernel_rfl) (by kernel_rfl) ((Tch.refl _ _).drew) ?_
          simp only [List.take_succ_cons, List.take_zero, List.drop_succ_cons, List.drop_nil]
          (repeat (first
            | ((with_reducible refine wq_fn cf_taken9 ?_ ?_ CT.out ?_); exact rfl; exact rfl; go_frame)
            | ((with_reducible refine wq_load_cell (by kernel_rfl) C0.out ?_ ?_ ?_); exact rfl; exact rfl; go_frame)
            | ((with_reducible refine wq_load_cell (by kernel_rfl) C1.out ?_ ?_ ?_); exact rfl; exact rfl; go_frame)
            | ((with_reducible refine wq_load_cell (by kernel_rfl) CH.out ?_ ?_ ?_); exact rfl; exact rfl; go_frame)
            | ((with_reducible refine wq_load_var pageT CX.out ?_ ?_ ?_); exact rfl; exact rfl; go_frame)
            | ((with_reducible refine wq_load_in pageT CS.out HY.out ?_ ?_ ?_); exact rfl; exact rfl; go_frame)
            | ((with_reducible refine wq_neq_arr pageT (s := (Arr.zero : Page)) (t := y) ?_ ?_ ?_ ?_); exact rfl; exact rfl; exact rfl; rw [HZZ.out]; go_frame)
            | go_big_quiet_skip | (go_big_quiet_want; go_big_quiet_op; first | go_big_quiet_on | (refine ⟨_, fun _ _ => rfl, ?_⟩; go_big_quiet_on))))
          refine wpQuiet_nil ?_
          intro w7 t7
          have W7 := Lib.hid (W6.out.old t7)
          have P7 := Lib.hid (P6.out.old t7)
          have T7 := Lib.hid (T6.out.trans (t7.mono (by simp)))
          clear t7 CT C0 C1 CH CX CS W6 P6 T6
          go_wp2_with fail
          go_ret
          exact ⟨false, rfl, ⟨(fun hh => by cases hh), fun hh => absurd hh BAD.out⟩, W7.out, P7.out, T7.out⟩
        | false =>
          have GOOD : Hid (W.have_[j]? = some (P.now.taken j) ∧ (P.now.taken j = true → W.pages[j]? = some (P.cur base j))) := ⟨by rw [HB.out, TKH.out], fun h => by rw [TKH.out] at h; cases h⟩
          clear hge hit hk1 hk2 hb_ hy htk hjp
          go_upto_region 8 with (first | (go_at_call 23; refine (pget_any HP.out HS.out.ok (j : Int)).mono ?_; rintro e w5 ⟨rfl, h5, t5⟩; rw [GE.out] at h5 ⊢; have P5 := Lib.hid h5; have T5 := Lib.hid t5; clear h5 t5) | ((with_reducible refine wc_alloc_arr pageT ?_); go_frame; (try simp only [World.size_alloc])) | ((with_reducible apply wc_store_new pageT); exact rfl; exact rfl; go_frame))
          have ta : Tch [] w5 (w5.alloc (.cells (secA (Arr.zero : Page)) 54)) := (Tch.refl _ _).alloc _
          have X6 : Hid ((w5.alloc (.cells (secA (Arr.zero : Page)) 54)).heap[w5.heap.size]? = some (.cells (secA (Arr.zero : Page)) 54)) := heap_alloc_new _ _
          have W6 := Lib.hid ((HW.out.touch T5.out (by have := SEP.out x (by simp); simp at this ⊢; omega) (by have := SEP.out hb (by simp); simp at this ⊢; omega) (by have := SEP.out pb (by simp); simp at this ⊢; omega)).old ta)
          have P6 := Lib.hid (P5.out.old ta)
          have T6 := Lib.hid ((T.out.trans T5.out).trans (ta.mono (by simp)))
          clear ta P5 T5 c0
          generalize w5.alloc (.cells (secA (Arr.zero : Page)) 54) = w6 at *
          generalize w5.heap.size = X at *
          have CT : Hid (∀ w', Tch [] w6 w' → Calls Tryz.prog 26 #[.pointer (some ⟨p, 0, none⟩), .int .i64 j] w' fun e w'' => e = .returned (.bool false) ∧ Tch [] w6 w'') := fun w' ht => (ptaken_any (P6.out.old ht) HS.out.ok (j : Int)).mono fun e w'' ⟨a1, a2⟩ => ⟨by rw [a1, IT.out], a2 ▸ ht⟩
          have C0 : Hid (∀ w', Tch [] w6 w' → w'.cell? ⟨x, 0, none⟩ = some (.slice (some ⟨hb, 0, none⟩) n hc)) := fun w' ht => cell_old ht W6.out.c0
          have C1 : Hid (∀ w', Tch [] w6 w' → w'.cell? ⟨x, 1, none⟩ = some (.slice (some ⟨pb, 0, none⟩) n pc)) := fun w' ht => cell_old ht W6.out.c1
          have CH : Hid (∀ w', Tch [] w6 w' → w'.cell? ⟨hb, j, none⟩ = some (.bool false)) := fun w' ht => cell_old ht (W6.out.hh.cell HB.out)
          have CX : Hid (∀ w', Tch [] w6 w' → w'.heap[X]? = some (.cells (secA (Arr.zero : Page)) 54)) := fun w' ht => ht.heap X6.out (by simp)
          have CS : Hid (∀ w', Tch [] w6 w' → SecsIn w' pb W.pages) := fun w' ht => W6.out.hp.touch ht (by simp)
          refine wp_region_walk (C := fun w' => Tch [] w6 w') 43 (by kernel_rfl) (by kernel_rfl) ((Tch.refl _ _).drew) ?_
          simp only [List.take_succ_cons, List.take_zero, List.drop_succ_cons, List.drop_nil]
          (repeat (first
            | ((with_reducible refine wq_fn cf_taken9 ?_ ?_ CT.out ?_); exact rfl; exact rfl; go_frame)
            | ((with_reducible refine wq_load_cell (by kernel_rfl) C0.out ?_ ?_ ?_); exact rfl; exact rfl; go_frame)
            | ((with_reducible refine wq_load_cell (by kernel_rfl) C1.out ?_ ?_ ?_); exact rfl; exact rfl; go_frame)
            | ((with_reducible refine wq_load_cell (by kernel_rfl) CH.out ?_ ?_ ?_); exact rfl; exact rfl; go_frame)
            | ((with_reducible refine wq_load_var pageT CX.out ?_ ?_ ?_); exact rfl; exact rfl; go_frame)
            | ((with_reducible refine wq_load_in pageT CS.out HY.out ?_ ?_ ?_); exact rfl; exact rfl; go_frame)
            | ((with_reducible refine wq_neq_arr pageT (s := (Arr.zero : Page)) (t := y) ?_ ?_ ?_ ?_); exact rfl; exact rfl; exact rfl; rw [HZZ.out]; go_frame)
            | go_big_quiet_skip | (go_big_quiet_want; go_big_quiet_op; first | go_big_quiet_on | (refine ⟨_, fun _ _ => rfl, ?_⟩; go_big_quiet_on))))
          refine wpQuiet_nil ?_
          intro w7 t7
          have W7 := Lib.hid (W6.out.old t7)
          have P7 := Lib.hid (P6.out.old t7)
          have T7 := Lib.hid (T6.out.trans (t7.mono (by simp)))
          clear t7 CT C0 C1 CH CX CS W6 P6 T6
          have ch7 := W7.out.hh.cell HB.out
          have c07 := W7.out.c0
          go_wp2_with fail
          go_roundg (n - (j + 1))
          case measure => omega
          case rel =>
            refine ⟨j + 1, by omega, by omega, by first | rfl | go_num, rfl, ?_, ?_, W7.out, P7.out, T7.out⟩
            · have fl := P.now.free_le j
              rw [P.now.free_step j, TKH.out]
              first | rfl | (congr 1; unfold wrap64; simp; omega) | (congr 1; simp)
            · intro k h2 hk
              by_cases e : k = j
              · subst e; exact GOOD.out
              · exact UP.out k h2 (by omega)
    · have hjn' : j = n := by omega
      subst hjn'
      clear hjn hj hn2
      go_wp2_with fail
      go_loopg [9] 8 (fun k i wx => ∃ m, OnAt 8 i k m ∧ (∀ i, i < m → W.roots i = P.now.roots i) ∧ wx = wr)
      case atStart => exact ⟨0, ⟨Nat.zero_le _, rfl, rfl⟩, fun i hi => by omega, rfl⟩
      case round =>
        clear c0
        obtain ⟨m, ⟨hm, rfl, rfl⟩, hroots, rfl⟩ := hrel
        have RT := Lib.hid hroots
        clear hroots
        by_cases hm8 : m < 8
        · have hpr : P.root (m : Int) = ((P.now.roots m : Int), 0) := by unfold PgS.root; rw [if_neg (by omega), Int.toNat_natCast]
          have PR := Lib.hid hpr
          have cr := HW.out.cR hm8
          clear hpr
          obtain ⟨r1, hr1⟩ : ∃ r1, P.now.roots m = r1 := ⟨_, rfl⟩
          obtain ⟨r2, hr2⟩ : ∃ r2, W.roots m = r2 := ⟨_, rfl⟩
          rw [hr1] at PR
          rw [hr2] at cr
          by_cases he : r1 = r2
          · have GOOD : Hid (W.roots m = P.now.roots m) := by show _ = _; rw [hr1, hr2, he]
            subst he
            clear hr1 hr2
            go_wp2_with (go_at_call 24; refine (proot_any HP.out (m : Int)).mono ?_; rintro e w' ⟨rfl, rfl⟩; rw [PR.out])
            go_roundg (8 - (m + 1))
            case measure => omega
            case rel =>
              refine ⟨m + 1, ⟨by omega, by go_num, rfl⟩, fun i hi => ?_, rfl⟩
              by_cases e : i = m
              · subst e; exact GOOD.out
              · exact RT.out i (by omega)
          · have he2 : ((r1 : Int) != (r2 : Int)) = true := bne_iff_ne.2 fun e => he (by omega)
            have BAD : Hid (¬ W.Knows P base) := fun hk => he (by rw [← hr1, ← hr2]; exact (hk.rt m hm8).symm)
            clear hr1 hr2 he
            go_wp2_with (go_at_call 24; refine (proot_any HP.out (m : Int)).mono ?_; rintro e w' ⟨rfl, rfl⟩; rw [PR.out])
            go_ret
            exact ⟨false, rfl, ⟨(fun hh => by cases hh), fun hh => absurd hh BAD.out⟩, HW.out, HP.out, T.out⟩
        · have hm' : m = 8 := by omega
          subst hm'
          have hfr : P.now.free P.pages = P.now.free j := by rw [HL.out]
          have FR := Lib.hid hfr
          have KN : Hid (W.Knows P base) := ⟨by rw [HW.out.l1, HL.out], by rw [HW.out.l2, HL.out], fun k h2 hk => (UP.out k h2 (by have := HL.out; omega)).1, fun k h2 hk ht => (UP.out k h2 (by have := HL.out; omega)).2 ht, RT.out⟩
          clear hfr
          go_wp2_with (go_at_call 10; refine (pfree_any HP.out HS.out.ok).mono ?_; rintro e w8 ⟨rfl, t8⟩; rw [FR.out]; have T8 := Lib.hid t8; clear t8)
          go_ret
          exact ⟨true, rfl, ⟨fun _ => KN.out, fun _ => rfl⟩, HW.out.old T8.out, HP.out.old T8.out, T.out.trans (T8.out.mono (by simp))⟩
end Go.Proofs.YtkjgbhpnlgcinaaGreatDoor
/-
  A holder's world when nothing is had yet; the place of layer 9 (ciboriumlaw09.tidy).
-/
namespace Go.Cib
open Go Go.RowKit
theorem exec_makeArrs9 {P : Program} {T E : TypeId} {a : Act} {w : World} {dst : Option Tmp} {ty : TypeId} {pos : String} {af : Array Edge} {x y : Operand} {gd : Option (Nat × Bool)}
    {n : Nat} (hE : BytesT P E n) (hT : P.underlying T = some (.slice E)) {m : Nat} (hb : n * m ≤ 281474976710656) (hm : m ≤ 9223372036854775807) (hx : a.eval x = .int .i64 m) (hy : a.eval y = .int .i64 m) :
    (execOp a.eval ⟨dst, .makeSlice T x y, ty, pos, af, gd⟩).run P w = .ok (.value (.slice (some ⟨w.heap.size, 0, none⟩) m m)) (w.alloc (.cells (secsA (List.replicate m (Arr.zero : Arr n))) E)) := by
  obtain ⟨i, h1, h2, h3, h4⟩ := hE.info
  rw [exec_makeRowsB hT h1 h4 (by simp [Value.cells, h2]) (by rw [h3]; exact hb) hm hx hy, show (Value.agg (bytesA (List.replicate n 0))).cells = secA (Arr.zero : Arr n) from rfl, rows_zero]
def worldN (g1 g2 n : Nat) : Array Value := #[.slice (some ⟨g1, 0, none⟩) n n, .slice (some ⟨g2, 0, none⟩) n n, .int .i64 0, .int .i64 0, .int .i64 0, .int .i64 0, .int .i64 0, .int .i64 0, .int .i64 0, .int .i64 0]
theorem worldN_eq (g1 g2 n : Nat) : worldN g1 g2 n = worldA g1 n g2 n n (fun _ => 0) := rfl
def HoldS.new (n : Nat) : HoldS := ⟨List.replicate n false, List.replicate n Arr.zero, fun _ => 0⟩
theorem HoldS.new_knows {P : PgS} {base : Nat → Page} {k n : Nat} (h : PgS.New P base k n) : (HoldS.new n).Knows P base := by
  refine ⟨by rw [h.pages]; exact List.length_replicate, by rw [h.pages]; exact List.length_replicate, fun m h2 hm => ?_, fun m h2 hm ht => ?_, fun i hi => by rw [h.now]; rfl⟩
  · rw [h.now]
    have : PgS.fresh.taken m = false := decide_eq_false (by omega)
    rw [this]
    unfold HoldS.new
    rw [List.getElem?_replicate, if_pos (by rw [← h.pages]; exact hm)]
  · rw [h.now] at ht
    have : PgS.fresh.taken m = false := decide_eq_false (by omega)
    rw [this] at ht; cases ht
/-- Of pages as of the others what a holder knows them by is the same. -/
theorem HoldS.Knows.same {W : HoldS} {P P2 : PgS} {base : Nat → Page} (h : W.Knows P base) (h1 : P2.pages = P.pages) (h2 : P2.now = P.now) (h3 : P2.over = P.over) : W.Knows P2 base := by
  refine ⟨h.l1.trans h1.symm, h.l2.trans h1.symm, fun m a b => ?_, fun m a b c => ?_, fun i hi => ?_⟩
  · rw [h2]; exact h.tk m a (by omega)
  · rw [h2] at c
    rw [h.pg m a (by omega) c]
    unfold PgS.cur; rw [h3]
  · rw [h2]; exact h.rt i hi
end Go.Cib
namespace Go.Proofs.YtkjgbhpnlgcinaaGreatDoor
open Go.RowKit Go.Cib
def BoolsNew (w : World) (g n : Nat) : Prop := w.heap[g]? = some (.cells (boolsA (List.replicate n false)) 4)
def PagesNew (w : World) (g n : Nat) : Prop := w.heap[g]? = some (.cells (secsA (List.replicate n (Arr.zero : Page))) 54)
theorem BoolsNew.later {w w' : World} {g n : Nat} (h : BoolsNew w g n) (ht : Tch [] w w') : BoolsNew w' g n := ht.heap h (by simp)
theorem PagesNew.later {w w' : World} {g n : Nat} (h : PagesNew w g n) (ht : Tch [] w w') : PagesNew w' g n := ht.heap h (by simp)
def KFr9 (p n B : Nat) : Nat → Value → World → Prop
  | 0, v, _ => v = .pointer (some ⟨p, 0, none⟩)
  | 1, v, _ => v = .int .i64 n
  | 2, v, w => ∃ g, v = .slice (some ⟨g, 0, none⟩) n n ∧ B ≤ g ∧ BoolsNew w g n
  | 3, v, _ => v = .pointer (some ⟨p, 0, none⟩)
  | 4, v, _ => v = .int .i64 n
  | 5, v, w => ∃ g, v = .slice (some ⟨g, 0, none⟩) n n ∧ B ≤ g ∧ PagesNew w g n
  | 6, v, w => ∃ g1 g2, v = .agg (worldN g1 g2 n) ∧ B ≤ g1 ∧ B ≤ g2 ∧ BoolsNew w g1 n ∧ PagesNew w g2 n
  | _, v, w => ∃ X g1 g2, v = .pointer (some ⟨X, 0, none⟩) ∧ B ≤ X ∧ B ≤ g1 ∧ B ≤ g2 ∧ BoolsNew w g1 n ∧ PagesNew w g2 n ∧ w.heap[X]? = some (.cells (worldN g1 g2 n) 43)
theorem KFr9.later {p n B : Nat} {j : Nat} {v : Value} {w w' : World} (h : KFr9 p n B j v w) (ht : Tch [] w w') : KFr9 p n B j v w' := by
  unfold KFr9 at h ⊢
  split at h <;> first | exact h | (obtain ⟨g, e, h1, hk⟩ := h; exact ⟨g, e, h1, hk.later ht⟩) | (obtain ⟨g1, g2, e, h1, h2, hk, hl⟩ := h; exact ⟨g1, g2, e, h1, h2, hk.later ht, hl.later ht⟩) | (obtain ⟨X, g1, g2, e, h0, h1, h2, hk, hl, hx⟩ := h; exact ⟨X, g1, g2, e, h0, h1, h2, hk.later ht, hl.later ht, ht.heap hx (by simp)⟩)
theorem wat_new {w : World} {X g1 g2 n : Nat} (h1 : BoolsNew w g1 n) (h2 : PagesNew w g2 n) (hx : w.heap[X]? = some (.cells (worldN g1 g2 n) 43)) : WAt w X g1 n g2 n n (HoldS.new n) := by
  refine ⟨hx, boolsIn_made h1, secsIn_whole h2, List.length_replicate, List.length_replicate, ?_, ?_, ?_⟩
  · rintro rfl; exact absurd (type_ne hx h1) (by decide)
  · rintro rfl; exact absurd (type_ne hx h2) (by decide)
  · rintro rfl; exact absurd (type_ne h1 h2) (by decide)
theorem placeT9 : AggT Tryz.prog 28 2 := by
  refine ⟨⟨_, Tryz.underlying28, rfl⟩, ?_⟩
  have h : (Tryz.prog.info? 28).map (·.size) = some 2 := by kernel_rfl
  obtain ⟨i, hi, hi2⟩ := Option.map_eq_some_iff.1 h
  exact ⟨i, hi, hi2⟩
def tidyN (s : Int) : Int := 1 + (s.tmod 20 + 20).tmod 20
def tidyK (s l : Int) : Int := tidyN s + 4 + (l.tmod 20 + 20).tmod 20
theorem tidy_place9 (s l : Int) : ∃ k h : Nat, tidyK s l = (k : Int) ∧ 2 + tidyK s l + 2 + tidyN s = ((2 + k + h : Nat) : Int) ∧ BegunP.Fits k h ∧ 3 ≤ h ∧ h ≤ 22 ∧ h + 2 ≤ k ∧ 4 ≤ k := by
  obtain ⟨s0, s1, _, _⟩ := mod20 s
  obtain ⟨l0, l1, _, _⟩ := mod20 l
  unfold tidyK tidyN
  generalize (s.tmod 20 + 20).tmod 20 = a at *
  generalize (l.tmod 20 + 20).tmod 20 = b at *
  exact ⟨(1 + a + 4 + b).toNat, (3 + a).toNat, by omega, by omega, ⟨by omega, by omega, by omega, by omega⟩, by omega, by omega, by omega, by omega⟩
theorem tidy9_any (w : World) (s l : Int) : Calls Tryz.prog 15 #[.agg #[.int .i64 s, .int .i64 l]] w fun e w' => e = .returned (.agg #[.int .i64 (2 + tidyK s l + 2 + tidyN s), .int .i64 (tidyK s l)]) ∧ Tch [] w w' := by
  obtain ⟨s0, s1, s2, s3⟩ := mod20 s
  obtain ⟨l0, l1, l2, l3⟩ := mod20 l
  have e1 : wrap64 (s.tmod 20 + 20) = s.tmod 20 + 20 := by unfold wrap64; omega
  have e2 : wrap64 (l.tmod 20 + 20) = l.tmod 20 + 20 := by unfold wrap64; omega
  have e3 : wrap64 (1 + (s.tmod 20 + 20).tmod 20) = tidyN s := by unfold wrap64 tidyN; omega
  have e4 : wrap64 (wrap64 (tidyN s + 4) + (l.tmod 20 + 20).tmod 20) = tidyK s l := by unfold wrap64 tidyK tidyN; omega
  have e5 : wrap64 (wrap64 (wrap64 (2 + tidyK s l) + 2) + tidyN s) = 2 + tidyK s l + 2 + tidyN s := by unfold wrap64 tidyK tidyN; omega
  have E1 := Lib.hid e1
  have E2 := Lib.hid e2
  have E3 := Lib.hid e3
  have E4 := Lib.hid e4
  have E5 := Lib.hid e5
  clear e1 e2 e3 e4 e5 s0 s1 s2 s3 l0 l1 l2 l3
  go_enter Tryz.func15, Tryz.ntmps15
  go_upto_region 2 with fail
  rw [E1.out, E3.out]
  go_upto_region 3 with fail
  rw [E2.out, E4.out]
  go_wp2_with fail
  rw [E5.out]
  refine bodyPost_ret (res_cell placeT9 rfl _ rfl (by rw [heap_alloc, if_pos (by simp)]) rfl) rfl ?_
  exact ⟨rfl, ((Tch.refl _ _).alloc _).alloc _⟩
end Go.Proofs.YtkjgbhpnlgcinaaGreatDoor
/-
  No page is handed out twice; what was put stands there; a Rollback brings back what was committed: the walk of PageApart.
-/
namespace Go.Proofs.YtkjgbhpnlgcinaaGreatDoor
open Go.RowKit Go.Cib
open BegunP
theorem holdsT_any {w : World} {x hb hc pb pc n p g d L M V Mo : Nat} {W : HoldS} {P : PgS} {base : Nat → Page} (h : Both w x hb hc pb pc n p g d L M V Mo W P base) (hn : 3 ≤ n ∧ n ≤ 3840) :
    Calls Tryz.prog 21 #[.pointer (some ⟨x, 0, none⟩), .pointer (some ⟨p, 0, none⟩)] w fun e w' => e = .returned (.bool true) ∧ Both w' x hb hc pb pc n p g d L M V Mo W P base ∧ Tch [g] w w' :=
  (holds9_any h.wat h.pat h.snd h.len hn h.sep).mono fun e w' ⟨b, h1, h2, h3, h4, h5⟩ => ⟨by rw [h1, h2.2 h.knows], ⟨h3, h4, h.snd, h.knows, h.len, h.sep⟩, h5⟩
/-- The holder's world, the last one that was committed, and the pages. -/
structure Apt (w0 wr : World) (x hb hc pb pc x2 hb2 hc2 pb2 pc2 n k p g d L M V Mo : Nat) (W W2 : HoldS) (P : PgS) (base : Nat → Page) (j : Nat) : Prop where
  both : Both wr x hb hc pb pc n p g d L M V Mo W P base
  wl : WAt wr x2 hb2 hc2 pb2 pc2 n W2
  kl : W2.Knows P.rollback base
  sep2 : ∀ y ∈ [x2, hb2, pb2], y ∉ 0 :: pgB p g d L M V Mo
  sep3 : ∀ y ∈ [x2, hb2, pb2], y ∉ [x, hb, pb]
  own : ∀ y ∈ [x, hb, pb, x2, hb2, pb2, p, g, d, L, M, V, Mo], w0.heap.size ≤ y
  tch : Tch [] w0 wr
  gen : P.log.gen ≤ 2 + j
  arm : P.log.disk.armed = 0
  lg : P.log.log = k
namespace Apt
variable {w0 wr w' w'' : World} {x hb hc pb pc x2 hb2 hc2 pb2 pc2 n k p g d L M V Mo j : Nat} {W W2 W3 : HoldS} {P P2 : PgS} {base base2 : Nat → Page}
theorem commits (h : Apt w0 wr x hb hc pb pc x2 hb2 hc2 pb2 pc2 n k p g d L M V Mo W W2 P base j) (hk : n + 2 ≤ k) (hn : n ≤ 100) (hj : j ≤ 100) :
    P.commit.1 = 0 ∧ P.commit.2.Snd (P.next base) ∧ W.Knows P.commit.2 (P.next base) ∧ W.Knows P.commit.2.rollback (P.next base) ∧ P.commit.2.pages = P.pages ∧ P.commit.2.log.gen ≤ 2 + (j + 1) ∧ P.commit.2.log.disk.armed = 0 ∧ P.commit.2.log.log = k := by
  have hl := PgS.ws_len (base := base) h.both.snd.ok
  have hlen := h.both.len
  have hg := h.gen
  have hlg := h.lg
  rcases h.both.snd.commit (by omega) (by omega) (by omega) with ⟨c1, c2, c3, c4, c5, c6, c7, c8, c9⟩ | ⟨_, _, c3, _⟩
  · have kn := h.both.knows.kept c6 c3 c5 fun m hm => HoldS.next_cur P base hm
    refine ⟨c1, c2, kn, kn.same rfl ?_ c5.symm, c6, by omega, c9 h.arm, c7.trans hlg⟩
    show P.commit.2.last = P.commit.2.now
    rw [c3, c4]
  · exact absurd h.arm c3
/-- A Commit was made, and the world copied. -/
theorem commit (h : Apt w0 wr x hb hc pb pc x2 hb2 hc2 pb2 pc2 n k p g d L M V Mo W W2 P base j) (hk : n + 2 ≤ k) (hn : n ≤ 100) (hj : j ≤ 100) (hp : PgAt w' p g d L M V Mo P.commit.2) (ht : Tch [p, g, d, L, M, V, Mo] wr w') :
    Both w' x hb hc pb pc n p g d L M V Mo W P.commit.2 (P.next base) ∧ Tch [] w0 w' ∧ ∀ x3 hb3 hc3 pb3 pc3 w'', WAt w'' x3 hb3 hc3 pb3 pc3 n W → Tch [] w' w'' → w'.heap.size ≤ x3 → w'.heap.size ≤ hb3 → w'.heap.size ≤ pb3 → Apt w0 w'' x hb hc pb pc x3 hb3 hc3 pb3 pc3 n k p g d L M V Mo W W P.commit.2 (P.next base) (j + 1) := by
  obtain ⟨_, c2, c3, c4, c5, c6, c7, c8⟩ := h.commits hk hn hj
  have b : Both w' x hb hc pb pc n p g d L M V Mo W P.commit.2 (P.next base) := ⟨h.both.paged (fun k hk => by simp only [List.mem_cons, List.not_mem_nil, or_false] at hk ⊢; omega) ht, hp, c2, c3, c5.trans h.both.len, h.both.sep⟩
  have t : Tch [] w0 w' := tch_own h.tch ht fun y hy => h.own y (by simp only [List.mem_cons, List.not_mem_nil, or_false] at hy; rcases hy with (rfl | rfl | rfl | rfl | rfl | rfl | rfl) <;> simp)
  refine ⟨b, t, fun x3 hb3 hc3 pb3 pc3 w'' hw t2 l1 l2 l3 => ⟨b.old t2, hw, c4, ?_, ?_, ?_, t.trans t2, c6, c7, c8⟩⟩
  · intro y hy hm
    have := hp.lt y hm
    simp only [List.mem_cons, List.not_mem_nil, or_false] at hy
    omega
  · intro y hy hm
    have := b.wat.lt
    simp only [List.mem_cons, List.not_mem_nil, or_false] at hy hm
    omega
  · intro y hy
    have := t.size
    simp only [List.mem_cons, List.not_mem_nil, or_false] at hy
    rcases hy with e | e | e | e | e | e | e
    · exact h.own y (by simp [e])
    · exact h.own y (by simp [e])
    · exact h.own y (by simp [e])
    · omega
    · omega
    · omega
    · exact h.own y (by rcases e with rfl | rfl | rfl | rfl | rfl | rfl | rfl <;> simp)
/-- All was taken back, and the last world copied. -/
theorem rolled (h : Apt w0 wr x hb hc pb pc x2 hb2 hc2 pb2 pc2 n k p g d L M V Mo W W2 P base j) (hp : PgAt w' p g d L M V Mo P.rollback) (ht : Tch [p, Mo] wr w') :
    WAt w' x2 hb2 hc2 pb2 pc2 n W2 ∧ Tch [] w0 w' ∧ ∀ x3 hb3 hc3 pb3 pc3 w'', WAt w'' x3 hb3 hc3 pb3 pc3 n W2 → Tch [] w' w'' → w'.heap.size ≤ x3 → w'.heap.size ≤ hb3 → w'.heap.size ≤ pb3 → Apt w0 w'' x3 hb3 hc3 pb3 pc3 x2 hb2 hc2 pb2 pc2 n k p g d L M V Mo W2 W2 P.rollback base (j + 1) := by
  have w2 : WAt w' x2 hb2 hc2 pb2 pc2 n W2 := h.wl.touch ht (fun hm => h.sep2 x2 (by simp) (by simp only [List.mem_cons, List.not_mem_nil, or_false] at hm ⊢; omega)) (fun hm => h.sep2 hb2 (by simp) (by simp only [List.mem_cons, List.not_mem_nil, or_false] at hm ⊢; omega)) (fun hm => h.sep2 pb2 (by simp) (by simp only [List.mem_cons, List.not_mem_nil, or_false] at hm ⊢; omega))
  have t : Tch [] w0 w' := tch_own h.tch ht fun y hy => h.own y (by simp only [List.mem_cons, List.not_mem_nil, or_false] at hy; rcases hy with (rfl | rfl) <;> simp)
  refine ⟨w2, t, fun x3 hb3 hc3 pb3 pc3 w'' hw t2 l1 l2 l3 => ⟨⟨hw, hp.old t2, h.both.snd.rollback, h.kl, h.both.len, ?_⟩, w2.old t2, h.kl.same rfl rfl rfl, h.sep2, ?_, ?_, t.trans t2, Nat.le_succ_of_le h.gen, h.arm, h.lg⟩⟩
  · intro y hy hm
    have := hp.lt y hm
    simp only [List.mem_cons, List.not_mem_nil, or_false] at hy
    omega
  · intro y hy hm
    have := w2.lt
    simp only [List.mem_cons, List.not_mem_nil, or_false] at hy hm
    omega
  · intro y hy
    have := t.size
    simp only [List.mem_cons, List.not_mem_nil, or_false] at hy
    rcases hy with e | e | e | e | e | e | e
    · omega
    · omega
    · omega
    · exact h.own y (by simp [e])
    · exact h.own y (by simp [e])
    · exact h.own y (by simp [e])
    · exact h.own y (by rcases e with rfl | rfl | rfl | rfl | rfl | rfl | rfl <;> simp)
/-- An op of the holder. -/
theorem acted (h : Apt w0 wr x hb hc pb pc x2 hb2 hc2 pb2 pc2 n k p g d L M V Mo W W2 P base j) (hb' : Both w' x hb hc pb pc n p g d L M V Mo W3 P2 base) (h1 : P2.log = P.log) (h2 : P2.last = P.last) (ht : Tch [p, Mo, x, hb, pb] wr w') : Apt w0 w' x hb hc pb pc x2 hb2 hc2 pb2 pc2 n k p g d L M V Mo W3 W2 P2 base (j + 1) := by
  have np : ∀ y ∈ [x2, hb2, pb2], y ∉ [p, Mo, x, hb, pb] := fun y hy hm => by
    have a := h.sep2 y hy
    have b := h.sep3 y hy
    simp only [List.mem_cons, List.not_mem_nil, or_false, not_or] at a b hm
    omega
  refine ⟨hb', h.wl.touch ht (np _ (by simp)) (np _ (by simp)) (np _ (by simp)), h.kl.same ?_ ?_ rfl, h.sep2, h.sep3, h.own, tch_own h.tch ht fun y hy => h.own y (by simp only [List.mem_cons, List.not_mem_nil, or_false] at hy; rcases hy with (rfl | rfl | rfl | rfl | rfl) <;> simp), ?_, ?_, ?_⟩
  · show P2.pages = P.pages
    rw [hb'.len, h.both.len]
  · exact h2
  · rw [h1]; have := h.gen; omega
  · rw [h1]; exact h.arm
  · rw [h1]; exact h.lg
/-- It was asked whether the pages say the same. -/
theorem held (h : Apt w0 wr x hb hc pb pc x2 hb2 hc2 pb2 pc2 n k p g d L M V Mo W W2 P base j) (hb' : Both w' x hb hc pb pc n p g d L M V Mo W P base) (ht : Tch [g] wr w') : Apt w0 w' x hb hc pb pc x2 hb2 hc2 pb2 pc2 n k p g d L M V Mo W W2 P base j := by
  have np : ∀ y ∈ [x2, hb2, pb2], y ∉ [g] := fun y hy hm => by
    have a := h.sep2 y hy
    simp only [List.mem_cons, List.not_mem_nil, or_false, not_or] at a hm
    omega
  exact ⟨hb', h.wl.touch ht (np _ (by simp)) (np _ (by simp)) (np _ (by simp)), h.kl, h.sep2, h.sep3, h.own, tch_own h.tch ht fun y hy => h.own y (by simp only [List.mem_cons, List.not_mem_nil, or_false] at hy; subst hy; simp), h.gen, h.arm, h.lg⟩
end Apt
set_option maxRecDepth 20000 in
set_option maxHeartbeats 4000000 in
theorem pageApart_any (w : World) (tab : Tab w) (s l : Int) (oa : Option Addr) (ocap : Nat) {os : List Op9V} (ho : Ops9At w oa os) (hol : os.length ≤ 9223372036854775807) :
    Calls Tryz.prog 4 #[.agg #[.int .i64 s, .int .i64 l], .slice oa os.length ocap] w fun e w' => e = .returned (.bool true) ∧ Tch [] w w' := by
  obtain ⟨k, h, hk, hs, fits, h3, h22, hk2, k4⟩ := tidy_place9 s l
  have HK := Lib.hid (And.intro hk hs)
  have FT := Lib.hid fits
  have HH := Lib.hid (And.intro h3 (And.intro h22 (And.intro hk2 k4)))
  have TAB := Lib.hid tab
  have HO := Lib.hid ho
  obtain ⟨m, hm⟩ : ∃ m, os.length = m := ⟨_, rfl⟩
  have HM := Lib.hid hm
  rw [hm] at hol ⊢
  clear hk hs fits h3 h22 hk2 k4 tab ho hm
  go_enter Tryz.func4, Tryz.ntmps4
  have t0 : Tch [] w (w.alloc (.cells #[.int .i64 s, .int .i64 l] 28)) := (Tch.refl _ _).alloc _
  have c0 : (w.alloc (.cells #[.int .i64 s, .int .i64 l] 28)).cell? ⟨w.heap.size, 0, none⟩ = some (.int .i64 s) := by simp
  have c1 : (w.alloc (.cells #[.int .i64 s, .int .i64 l] 28)).cell? ⟨w.heap.size, 1, none⟩ = some (.int .i64 l) := by simp
  have T0 := Lib.hid t0
  clear t0
  go_upto_region 1 with fail
  generalize w.alloc (.cells #[.int .i64 s, .int .i64 l] 28) = w1 at *
  go_wp2_with fail
  refine (tidy9_any _ s l).mono ?_
  rintro e w2 ⟨rfl, t2⟩
  rw [HK.out.1] at *
  rw [HK.out.2]
  have T2 := Lib.hid (T0.out.trans t2)
  clear t2 c0 c1 T0
  go_wp2_with fail
  refine (made_any w2 FT.out HH.out.1 (by have := HH.out.2.1; omega) HH.out.2.2.2 (TAB.out.touch T2.out (by simp))).mono ?_
  rintro e w3 ⟨p, g, d, L, M, V, Mo, P, base, rfl, h0, hn, t3, own⟩
  have NW := Lib.hid hn
  have H0 := Lib.hid h0
  have T3 := Lib.hid (T2.out.trans t3)
  have OWN : Hid (∀ y ∈ pgB p g d L M V Mo, w.heap.size ≤ y) := fun y hy => Nat.le_trans T2.out.size (own y hy)
  clear hn h0 t3 own T2
  go_upto_region 4 with fail
  have CPS : Hid (∀ w', Tch [] w3 w' → Calls Tryz.prog 16 #[.pointer (some ⟨p, 0, none⟩)] w' fun e w'' => e = .returned (.int .i64 h) ∧ Tch [] w3 w'' ∧ Tch [] w' w'') := fun w' ht => (ppages_any (H0.out.old ht)).mono fun e w'' ⟨a1, a2⟩ => ⟨by rw [a1, NW.out.pages], a2 ▸ ht, a2 ▸ Tch.refl _ _⟩
  have hh22 := HH.out.2.1
  obtain ⟨n, hnn⟩ : ∃ n, h = n := ⟨_, rfl⟩
  subst hnn
  refine wp_region_valt 8 (fun w' => Tch [] w3 w') (KFr9 p h w3.heap.size) (by kernel_rfl) (by kernel_rfl) (by kernel_rfl) ((Tch.refl _ _).drew) (fun w4 w5 _ _ ht i v hk => hk.later ht) ?_ ?_
  · intro i o hi ho fu w' hC hold hdep
    have hi7 : i = 0 ∨ i = 1 ∨ i = 2 ∨ i = 3 ∨ i = 4 ∨ i = 5 ∨ i = 6 ∨ i = 7 := by omega
    rcases hi7 with rfl | rfl | rfl | rfl | rfl | rfl | rfl | rfl
    all_goals (simp only [List.getElem?_cons_zero, List.getElem?_cons_succ, Option.some.injEq] at ho; subst ho)
    · refine step_plain rfl ?_
      have x6 : fu.tmps[6]?.getD undef = .pointer (some ⟨p, 0, none⟩) := ev_tmp (hold 6 (by show _ < 70; omega) (by kernel_rfl))
      go_simp
      exact ⟨rfl, Tch.refl _ _⟩
    · refine step_plain rfl ?_
      have x18 : fu.tmps[18]?.getD undef = .pointer (some ⟨p, 0, none⟩) := ev_tmp (hdep 0 18 (by show _ < 70; omega) (by kernel_rfl) (by kernel_rfl))
      go_simp
      refine (CPS.out w' hC).mono ?_
      rintro e w6 ⟨rfl, q1, q2⟩
      exact ⟨_, rfl, rfl, q1, q2⟩
    · refine step_plain rfl ?_
      have x19 : fu.tmps[19]?.getD undef = .int .i64 h := ev_tmp (hdep 1 19 (by show _ < 70; omega) (by kernel_rfl) (by kernel_rfl))
      have e1 := hdep 1 19 (by show _ < 70; omega) (by kernel_rfl) (by kernel_rfl)
      exact stpR_ok (exec_makeBools uBools9 infoBool1 (n := h) (by omega) e1 e1) ⟨⟨w'.heap.size, rfl, hC.size, heap_alloc_new _ _⟩, hC.alloc _, (Tch.refl _ _).alloc _⟩
    · refine step_plain rfl ?_
      have x6 : fu.tmps[6]?.getD undef = .pointer (some ⟨p, 0, none⟩) := ev_tmp (hold 6 (by show _ < 70; omega) (by kernel_rfl))
      go_simp
      exact ⟨rfl, Tch.refl _ _⟩
    · refine step_plain rfl ?_
      have x21 : fu.tmps[21]?.getD undef = .pointer (some ⟨p, 0, none⟩) := ev_tmp (hdep 3 21 (by show _ < 70; omega) (by kernel_rfl) (by kernel_rfl))
      go_simp
      refine (CPS.out w' hC).mono ?_
      rintro e w6 ⟨rfl, q1, q2⟩
      exact ⟨_, rfl, rfl, q1, q2⟩
    · refine step_plain rfl ?_
      have x22 : fu.tmps[22]?.getD undef = .int .i64 h := ev_tmp (hdep 4 22 (by show _ < 70; omega) (by kernel_rfl) (by kernel_rfl))
      have e1 := hdep 4 22 (by show _ < 70; omega) (by kernel_rfl) (by kernel_rfl)
      exact stpR_ok (exec_makeArrs9 pageT uPages9 (m := h) (by omega) (by omega) e1 e1) ⟨⟨w'.heap.size, rfl, hC.size, heap_alloc_new _ _⟩, hC.alloc _, (Tch.refl _ _).alloc _⟩
    · refine step_plain rfl ?_
      have x20 := hdep 2 20 (by show _ < 70; omega) (by kernel_rfl) (by kernel_rfl)
      have x23 := hdep 5 23 (by show _ < 70; omega) (by kernel_rfl) (by kernel_rfl)
      obtain ⟨g1, e1, hg1, hb1⟩ := hdep 2 20 (by show _ < 70; omega) (by kernel_rfl) (by kernel_rfl)
      obtain ⟨g2, e2, hg2, hb2⟩ := hdep 5 23 (by show _ < 70; omega) (by kernel_rfl) (by kernel_rfl)
      have y1 := ev_tmp e1
      have y2 := ev_tmp e2
      go_simp
      exact ⟨⟨g1, g2, rfl, hg1, hg2, hb1, hb2⟩, Tch.refl _ _⟩
    · refine step_plain rfl ?_
      have x24 := hdep 6 24 (by show _ < 70; omega) (by kernel_rfl) (by kernel_rfl)
      obtain ⟨g1, g2, e1, hg1, hg2, hb1, hb2⟩ := hdep 6 24 (by show _ < 70; omega) (by kernel_rfl) (by kernel_rfl)
      have y1 := ev_tmp e1
      go_simp
      exact ⟨⟨w'.heap.size, g1, g2, rfl, hC.size, hg1, hg2, hb1.later ((Tch.refl _ _).alloc _), hb2.later ((Tch.refl _ _).alloc _), heap_alloc_new _ _⟩, hC.alloc _, (Tch.refl _ _).alloc _⟩
  · intro vs w4 hC hK
    obtain ⟨X, g1, g2, h7, x0, x1, x2, hb1, hb2, hx⟩ := hK 7 (by omega)
    have H7 := Lib.hid h7
    have W4 := Lib.hid (wat_new hb1 hb2 hx)
    have T4 := Lib.hid hC
    have OX := Lib.hid (And.intro x0 (And.intro x1 x2))
    clear hK hC h7 hb1 hb2 hx x0 x1 x2
    unfold fullOf
    rw [show (List.range 8).map vs = [vs 0, vs 1, vs 2, vs 3, vs 4, vs 5, vs 6, vs 7] from rfl, H7.out]
    generalize vs 0 = v0
    generalize vs 1 = v1
    generalize vs 2 = v2
    generalize vs 3 = v3
    generalize vs 4 = v4
    generalize vs 5 = v5
    generalize vs 6 = v6
    clear H7 vs
    simp only [List.take_succ_cons, List.take_zero, List.drop_succ_cons, List.drop_zero, putAll]
    go_frame
    have B4 : Hid (Both w4 X g1 h g2 h h p g d L M V Mo (HoldS.new h) P base) := by
      refine ⟨W4.out, H0.out.old T4.out, NW.out.snd, HoldS.new_knows NW.out, NW.out.pages, ?_⟩
      intro y hy hm
      have := H0.out.lt y hm
      have := OX.out
      simp only [List.mem_cons, List.not_mem_nil, or_false] at hy
      omega
    have LT4 := Lib.hid W4.out.lt
    clear W4
    have hn3 : 3 ≤ h ∧ h ≤ 4000 := ⟨HH.out.1, by omega⟩
    go_upto_region 6 with (go_at_call 17; refine (twin_any B4.out.wat hn3).mono ?_; rintro e w5 ⟨t5, x2, hb2, hc2, pb2, pc2, rfl, h5, l1, l2, l3⟩; have T5 := Lib.hid t5; have W5 := Lib.hid h5; have L5 := Lib.hid (And.intro l1 (And.intro l2 l3)); clear t5 h5 l1 l2 l3)
    have AP : Hid (Apt w w5 X g1 h g2 h x2 hb2 hc2 pb2 pc2 h k p g d L M V Mo (HoldS.new h) (HoldS.new h) P base 0) := by
      have q := NW.out
      refine ⟨B4.out.old T5.out, W5.out, B4.out.knows.same rfl ?_ (show (fun _ => none) = P.over from q.over.symm), ?_, ?_, ?_, (T3.out.trans T4.out).trans T5.out, q.gen, q.armed, q.log⟩
      · show P.last = P.now
        rw [q.now, q.last]
      · intro y hy hm
        have := B4.out.pat.lt y hm
        have := L5.out
        simp only [List.mem_cons, List.not_mem_nil, or_false] at hy
        omega
      · intro y hy hm
        have := LT4.out
        have := L5.out
        simp only [List.mem_cons, List.not_mem_nil, or_false] at hy hm
        omega
      · intro y hy
        have a := OWN.out y
        have b := OX.out
        have c := L5.out
        have d1 := T3.out.size
        have d2 := T4.out.size
        simp only [List.mem_cons, List.not_mem_nil, or_false] at hy a
        rcases hy with rfl | rfl | rfl | rfl | rfl | rfl | hy
        · omega
        · omega
        · omega
        · omega
        · omega
        · omega
        · exact a hy
    clear B4 LT4 OX OWN W5 L5 T5 T4 T3 CPS H0 NW
    have HK2 : Hid (h + 2 ≤ k ∧ h ≤ 100) := ⟨HH.out.2.2.1, by omega⟩
    generalize HoldS.new h = N0 at AP
    go_wp2_with fail
    go_loopg [7, 8, 9] 80 (fun q nv lv i wr => ∃ j x hb hc pb pc x2 hb2 hc2 pb2 pc2 W W2 P base, OnAt 80 i q j ∧ nv = .pointer (some ⟨x, 0, none⟩) ∧ lv = .pointer (some ⟨x2, 0, none⟩) ∧ Apt w wr x hb hc pb pc x2 hb2 hc2 pb2 pc2 h k p g d L M V Mo W W2 P base j)
    case atStart => exact ⟨0, _, _, _, _, _, _, _, _, _, _, _, _, _, _, ⟨Nat.zero_le _, rfl, rfl⟩, rfl, rfl, AP.out⟩
    case round =>
      clear AP
      obtain ⟨j, x, hb, hc, pb, pc, x2, hb2, hc2, pb2, pc2, W, W2, P, base, ⟨hj, rfl, rfl⟩, rfl, rfl, hap⟩ := hrel
      have AP := Lib.hid hap
      clear hap
      by_cases hjj : j < m ∧ j < 80
      · obtain ⟨hj1, hj2⟩ := hjj
        obtain ⟨o, hx⟩ : ∃ o, os[j]? = some o := ⟨_, List.getElem?_eq_getElem (by rw [HM.out]; exact hj1)⟩
        obtain ⟨kb, ko, rfl, hop⟩ := HO.out j o hx
        have hop' := hop.later AP.out.tch
        have c0 : wr.cell? ⟨kb, ko + j * 5, none⟩ = some (.int .i64 o.what) := hop'.1 0 _ rfl
        have HOP := Lib.hid hop
        clear hop hop' hx
        go_upto_region 12 with fail
        by_cases q7 : o.what = 7
        · have q7b : (o.what == 7) = true := by simp [q7]
          clear q7 c0 HOP
          have cms := AP.out.commits HK2.out.1 HK2.out.2 (by omega)
          have CE := Lib.hid cms.1
          clear cms
          go_upto_region 15 with (go_at_call 18; refine (pcommit_any AP.out.both.pat AP.out.both.snd.ok).mono ?_; rintro e w6 ⟨rfl, h6, t6⟩; rw [CE.out]; have H6 := Lib.hid h6; have T6 := Lib.hid t6; clear h6 t6)
          have CM := Lib.hid (AP.out.commit HK2.out.1 HK2.out.2 (by omega) H6.out T6.out)
          clear H6 T6 AP CE
          go_upto_region 20 with (go_at_call 17; refine (twin_any CM.out.1.wat hn3).mono ?_; rintro e w7 ⟨t7, x3, hb3, hc3, pb3, pc3, rfl, h7, l1, l2, l3⟩; have AP7 := Lib.hid (CM.out.2.2 _ _ _ _ _ _ h7 t7 l1 l2 l3); clear t7 h7 l1 l2 l3)
          clear CM
          go_wp2_with (go_at_call 21; refine (holdsT_any AP7.out.both ⟨hn3.1, by omega⟩).mono ?_; rintro e w8 ⟨rfl, h8, t8⟩; have AP8 := Lib.hid (AP7.out.held h8 t8); clear h8 t8)
          go_roundg (80 - (j + 1))
          case measure => omega
          case rel => exact ⟨j + 1, _, _, _, _, _, _, _, _, _, _, _, _, _, _, ⟨by omega, by go_num, rfl⟩, rfl, rfl, AP8.out⟩
        · have q7b : (o.what == 7) = false := by simpa using q7
          clear q7
          by_cases q8 : o.what = 8
          · have q8b : (o.what == 8) = true := by simp [q8]
            clear q8 c0 HOP
            go_upto_region 19 with (go_at_call 19; refine (prollback_any AP.out.both.pat).mono ?_; rintro e w6 ⟨rfl, h6, t6⟩; have H6 := Lib.hid h6; have T6 := Lib.hid t6; clear h6 t6)
            have CM := Lib.hid (AP.out.rolled H6.out T6.out)
            clear H6 T6 AP
            go_upto_region 20 with (go_at_call 17; refine (twin_any CM.out.1 hn3).mono ?_; rintro e w7 ⟨t7, x3, hb3, hc3, pb3, pc3, rfl, h7, l1, l2, l3⟩; have AP7 := Lib.hid (CM.out.2.2 _ _ _ _ _ _ h7 t7 l1 l2 l3); clear t7 h7 l1 l2 l3)
            clear CM
            go_wp2_with (go_at_call 21; refine (holdsT_any AP7.out.both ⟨hn3.1, by omega⟩).mono ?_; rintro e w8 ⟨rfl, h8, t8⟩; have AP8 := Lib.hid (AP7.out.held h8 t8); clear h8 t8)
            go_roundg (80 - (j + 1))
            case measure => omega
            case rel => exact ⟨j + 1, _, _, _, _, _, _, _, _, _, _, _, _, _, _, ⟨by omega, by go_num, rfl⟩, rfl, rfl, AP8.out⟩
          · have q8b : (o.what == 8) = false := by simpa using q8
            clear q8 c0
            have hop' := HOP.out.later AP.out.tch
            have c0 : wr.cell? ⟨kb, ko + j * 5, none⟩ = some (.int .i64 o.what) := hop'.1 0 _ rfl
            have c1 : wr.cell? ⟨kb, ko + j * 5 + 1, none⟩ = some (.int .i64 o.i) := hop'.1 1 _ rfl
            have c2 : wr.cell? ⟨kb, ko + j * 5 + 2, none⟩ = some (.int .i64 o.n) := hop'.1 2 _ rfl
            have c3 : wr.cell? ⟨kb, ko + j * 5 + 3, none⟩ = some (.string o.text) := hop'.1 3 _ rfl
            have c4 : wr.cell? ⟨kb, ko + j * 5 + 4, none⟩ = some (.slice o.ka o.keep.length o.kcap) := hop'.1 4 _ rfl
            have OK := Lib.hid hop'.2
            clear hop' HOP
            go_upto_region 20 with (go_at_call 20; refine (act_any AP.out.both ⟨hn3.1, by omega⟩ OK.out).mono ?_; rintro e w6 ⟨rfl, W3, P3, h6, g1, g2, t6⟩; have AP7 := Lib.hid (AP.out.acted h6 g1 g2 t6); clear h6 g1 g2 t6)
            clear c0 c1 c2 c3 c4 OK AP
            go_wp2_with (go_at_call 21; refine (holdsT_any AP7.out.both ⟨hn3.1, by omega⟩).mono ?_; rintro e w8 ⟨rfl, h8, t8⟩; have AP8 := Lib.hid (AP7.out.held h8 t8); clear h8 t8)
            go_roundg (80 - (j + 1))
            case measure => omega
            case rel => exact ⟨j + 1, _, _, _, _, _, _, _, _, _, _, _, _, _, _, ⟨by omega, by go_num, rfl⟩, rfl, rfl, AP8.out⟩
      · have TW := Lib.hid (TAB.out.touch AP.out.tch (by simp))
        go_wp2_with (go_at_call 14; refine (works9_any wr TW.out).mono ?_; rintro e we ⟨rfl, te⟩; have TE := Lib.hid (AP.out.tch.trans te); clear te)
        all_goals (go_ret; exact ⟨rfl, TE.out⟩)
end Go.Proofs.YtkjgbhpnlgcinaaGreatDoor
/-
  No page is handed out twice, what was put into one stands there whatever is done to others, and a Rollback brings back what was committed last: PageApart answers true at every input. No condition but that the listed table of package math/bits reads as the text lays it, which the card ties.
-/
namespace Go.Proofs.YtkjgbhpnlgcinaaGreatDoor
open Go.ChangeShapes Go.WideShapes Go.ChangeAt Go.RowKit Go.Cib
open Go.ChangeMaps (open_string shut_string)

set_option maxRecDepth 100000 in
set_option maxHeartbeats 1000000 in
theorem pageApart_lifted (os : Os) (started : os.Started) (H : Type) (enc : TypeId × Value → H) :
    ReturnsInHanded {} Tryz.checked os 4 .any (fun w args => (Rows.pageApartSpec.pre enc Tryz.prog Tryz.f4 [] false w args ∧ laidMetH Tryz.prog [("math/bits.deBruijn64tab", Rows.laid_math_bits_deBruijn64tab)] w) ∧ sizedMet enc Tryz.prog Tryz.f4 (OpenSpec.ofChange Rows.pageApartSpec) false w args) (Rows.pageApartSpec.post enc Tryz.prog Tryz.f4 false true false false) := by
  refine returnsInHanded_of_change_and (C := Tryz.checked) (X := fun w _ => laidMetH Tryz.prog [("math/bits.deBruijn64tab", Rows.laid_math_bits_deBruijn64tab)] w) (fun _ _ _ hh h => h.of_heap hh) own started (by kernel_rfl) Tryz.func4
    (ChangeSpec.witness_at (enc := enc) (C := Tryz.checked) (os := os) (X := fun w _ => laidMetH Tryz.prog [("math/bits.deBruijn64tab", Rows.laid_math_bits_deBruijn64tab)] w) false (doorWorld os) #[.agg #[.int .i64 0, .int .i64 0], .slice none 0 0] 8 rfl (by kernel_rfl) (by kernel_rfl) (by kernel_rfl) (by kernel_rfl) (by kernel_rfl) (door_met os _)) ?_
  intro W base args ds gs before hval0 hW _ _ hL _
  have tab := tab_of_laid hL
  have hval : ∀ (j : Nat) t v, Tryz.f4.params[j]? = some t → args[j]? = some v → Value.okWide Tryz.prog W .any base t v := hval0
  have hW' := hW
  obtain ⟨p, q, hA0, hV, rfl, _, _⟩ := hW
  have hA : DataW.TrodAll enc Tryz.prog W 0 (fun _ => true) true Tryz.f4.params.toList args.toList ds p := hA0
  rw [Tryz.params4] at hA hval
  obtain ⟨v0, vs0, d0, ds0, p0, q0, hargs, rfl, rfl, h0, r0⟩ := trodAll_cons hA
  obtain ⟨v1, vs1, d1, ds1, p1, q1, rfl, rfl, rfl, h1, r1⟩ := trodAll_cons r0
  obtain ⟨rfl, rfl, rfl⟩ := trodAll_nil r1
  obtain rfl : args = #[v0, v1] := by cases args; simp_all
  obtain ⟨rfl, rfl⟩ := trodVars_none hV
  obtain ⟨cs0, rfl, _⟩ := okWide_struct Tryz.underlying28 (hval 0 28 v0 rfl rfl)
  have k0 := h0
  have lt0 : ∀ x ∈ p0, x.block < W.heap.size := by obtain ⟨m, hm⟩ := k0; exact DataW.trod_lt m _ _ _ hm
  obtain ⟨fuel0, hf0⟩ := h0
  obtain ⟨s0, m0, e0, z0, y0⟩ := place9_of_trod hf0
  obtain rfl : cs0 = #[.int .i64 s0, .int .i64 m0] := by cases cs0; simp [Value.cells] at e0; simp [e0]
  obtain ⟨a1, l1, c1, rfl⟩ := okWide_slice Tryz.underlying37 (hval 1 37 v1 rfl rfl)
  have k1 := h1
  have lt1 : ∀ x ∈ p1, x.block < W.heap.size := by obtain ⟨m, hm⟩ := k1; exact DataW.trod_lt m _ _ _ hm
  obtain ⟨fuel1, hf1⟩ := h1
  obtain ⟨x1, os1, y1, e1, g1, s1, z1⟩ := ops9_of_trod hf1
  cases e1
  clear hA0 hval0
  refine (pageApart_any W tab s0 m0 a1 c1 g1 (by unfold maxLen at s1; omega)).mono fun e W' ⟨he, ht⟩ => ?_
  subst he
  have bel : Below W.heap.size W W' := ht.below (Nat.le_refl _) (by simp)
  exact ⟨_, rfl, _, _, _, [], _, [], hW', trodAll_mk1 (shut_bool Tryz.underlying4 _), (trodAll_cons_mk (Below.trod laidOut (by kernel_rfl) (of_decide_eq_true (by kernel_rfl)) k0 bel lt0) (trodAll_cons_mk (Below.trod laidOut (by kernel_rfl) (of_decide_eq_true (by kernel_rfl)) k1 bel lt1) trodAll_mk0)), rfl, bel.frame _, fun h => by cases h⟩

theorem pageApart_row_holds : Rows.PageApartSaid :=
  OpenClaim.holds_of_wide 4 Tryz.f4 rfl rfl rfl rfl rfl rfl rfl ⟨rfl, rfl, rfl, rfl, rfl⟩ rfl rfl rfl rfl rfl (by kernel_rfl) Tryz.func4 (by kernel_rfl)
    (of_decide_eq_true (by kernel_rfl)) (by unfold Func.isWrapper; first | (rw [if_pos (by decide +kernel)]; kernel_rfl) | (rw [if_neg (by decide +kernel)]; exact ⟨rfl, rfl⟩))
    (fun os started H enc _ => pageApart_lifted os started H enc)
theorem pageApart_holds : Rows.PageApartCardSaid :=
  Claim7.holds_tied_plain_at .later [] [.data] true (true, _) false
    pageApart_row_holds (fun _ h => by cases h) (by kernel_rfl) (fun _ h => by cases h) pageApart_row_tie rfl ⟨rfl, rfl⟩ (by kernel_rfl) rfl
    (fun f fn hf hfn => by
      obtain rfl : f = 4 := Option.some.inj ((show Tryz.prog.funcNamed "ciborium/ciboriumlaw09.PageApart" = some 4 by kernel_rfl).symm.trans hf) |>.symm
      obtain rfl : fn = Tryz.f4 := (Option.some.inj (Tryz.func4.symm.trans hfn)).symm
      exact ⟨by kernel_rfl, fun j t ht => by
        rw [Tryz.params4] at ht
        rcases j with _ | j
        · obtain rfl : t = 28 := by simpa using ht.symm
          exact (show Tryz.prog.wantsStandIn 28 = false by kernel_rfl)
        rcases j with _ | j
        · obtain rfl : t = 37 := by simpa using ht.symm
          exact (show Tryz.prog.wantsStandIn 37 = false by kernel_rfl)
        · simp at ht⟩)
    (by kernel_rfl)
#print axioms pageApart_holds
end Go.Proofs.YtkjgbhpnlgcinaaGreatDoor
