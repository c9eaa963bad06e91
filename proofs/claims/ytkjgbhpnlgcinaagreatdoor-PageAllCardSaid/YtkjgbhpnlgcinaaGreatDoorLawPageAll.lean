/-
  Where there are no pages all is refused: the walk of PageNil.
-/
import Derived.Test.YtkjgbhpnlgcinaaGreatDoorMP6
import Derived.Test.YtkjgbhpnlgcinaaGreatDoorMP6
import Derived.ProofKit
import Derived.OpenShut
import Derived.ShutString
import Derived.ChangeOld
import Derived.Deep.Slices
import Derived.Deep.Strs
import Derived.Test.YtkjgbhpnlgcinaaGreatDoorRows
import Derived.Lib.LaidTab
import Derived.LaidHandle
import Derived.Handed
import Derived.SevenTiedAt
import Derived.Test.YtkjgbhpnlgcinaaGreatDoorTie
import Derived.Test.YtkjgbhpnlgcinaaGreatDoorCards
import Derived.Test.YtkjgbhpnlgcinaaGreatDoorMBools
namespace Go.Proofs.YtkjgbhpnlgcinaaGreatDoor
open Go.RowKit Go.Cib
set_option maxRecDepth 20000 in
set_option maxHeartbeats 2000000 in
theorem pageNil_any (w : World) (tab : Tab w) (dd ii nn : Int) (tx kk : Value) :
    Calls Tryz.prog 5 #[.agg #[.int .i64 dd, .int .i64 ii, .int .i64 nn, tx, kk]] w fun e w' => e = .returned (.bool true) ∧ Tch [] w w' := by
  have t0 : Tch [] w (w.alloc (.cells #[.int .i64 dd, .int .i64 ii, .int .i64 nn, tx, kk] 46)) := (Tch.refl _ _).alloc _
  have b0 : (w.alloc (.cells #[.int .i64 dd, .int .i64 ii, .int .i64 nn, tx, kk] 46)).heap[w.heap.size]? = some (.cells #[.int .i64 dd, .int .i64 ii, .int .i64 nn, tx, kk] 46) := heap_alloc_new _ _
  have T0 := Lib.hid t0
  have B0 := Lib.hid b0
  have TAB := Lib.hid (tab.touch t0 (by simp))
  clear t0 b0 tab
  go_enter Tryz.func5, Tryz.ntmps5
  go_upto_region 1 with fail
  generalize w.alloc (.cells #[.int .i64 dd, .int .i64 ii, .int .i64 nn, tx, kk] 46) = w1 at *
  generalize w.heap.size = B at *
  have c1 : w1.cell? ⟨B, 1, none⟩ = some (.int .i64 ii) := by rw [cell_of_row w1 B 1 _ _ _ B0.out]; rfl
  go_wp2_with (go_at_call 22; refine (nopen_any _).mono ?_; rintro e w' ⟨rfl, rfl⟩)
  refine (npget_any _ ii).mono ?_
  rintro e w2 ⟨rfl, t2⟩
  have t3 : Tch [] w2 (w2.alloc (.cells (secA (Arr.zero : Page)) 54)) := (Tch.refl _ _).alloc _
  have b3 : (w2.alloc (.cells (secA (Arr.zero : Page)) 54)).heap[w2.heap.size]? = some (.cells (secA (Arr.zero : Page)) 54) := heap_alloc_new _ _
  have T3 := Lib.hid ((T0.out.trans t2).trans t3)
  have B3 := Lib.hid (t3.heap (t2.heap B0.out (by simp)) (by simp))
  have TAB3 := Lib.hid ((TAB.out.touch t2 (by simp)).touch t3 (by simp))
  have X3 := Lib.hid b3
  clear t2 t3 b3 T0 B0 TAB c1
  go_upto_region 4 with (first | ((with_reducible refine wc_alloc_arr pageT ?_); go_frame; (try simp only [World.size_alloc])) | ((with_reducible apply wc_store_new pageT); exact rfl; exact rfl; go_frame))
  generalize w2.alloc (.cells (secA (Arr.zero : Page)) 54) = w3 at *
  generalize w2.heap.size = X at *
  clear w2
  have d1 : w3.cell? ⟨B, 1, none⟩ = some (.int .i64 ii) := by rw [cell_of_row w3 B 1 _ _ _ B3.out]; rfl
  have d2 : w3.cell? ⟨B, 2, none⟩ = some (.int .i64 nn) := by rw [cell_of_row w3 B 2 _ _ _ B3.out]; rfl
  go_upto_region 8 with (first | (go_at_call 12; refine (nptake_any _).mono ?_; rintro e w' ⟨rfl, rfl⟩) | (go_at_call 24; refine (nproot_any _ _).mono ?_; rintro e w' ⟨rfl, rfl⟩) | (go_at_call 25; refine (npchanged_any _).mono ?_; rintro e w' ⟨rfl, rfl⟩) | (go_at_call 11; refine (npfirst_any _).mono ?_; rintro e w' ⟨rfl, rfl⟩) | (go_at_call 16; refine (nppages_any _).mono ?_; rintro e w' ⟨rfl, rfl⟩) | (go_at_call 10; refine (npfree_any _).mono ?_; rintro e w' ⟨rfl, rfl⟩) | (go_at_call 26; refine (nptaken_any _ _).mono ?_; rintro e w' ⟨rfl, rfl⟩) | ((with_reducible apply wc_load_var pageT X3.out); exact rfl; go_frame) | ((with_reducible apply wc_build_arr pageT); exact rfl; go_frame) | ((with_reducible refine wc_eql_arr pageT (s := Arr.zero) (t := Arr.zero) ?_ ?_ ?_); exact rfl; exact rfl; rw [decide_eq_true rfl]; go_frame))
  go_wp2_with fail
  refine (nmake_any _).mono ?_
  rintro e w' ⟨rfl, rfl⟩
  go_wp2_with fail
  simp only [List.append_eq, List.nil_append]
  with_reducible apply wcg_load_var pageT X3.out
  · exact rfl
  · exact rfl
  go_frame
  go_wp2_with (first | ((with_reducible apply wcg_load_var pageT X3.out); exact rfl; exact rfl; go_frame) | (go_at_call 28; refine (npput_any _ _ _).mono ?_; rintro e w4 ⟨rfl, t4⟩; have T4 := Lib.hid (T3.out.trans t4); have TAB4 := Lib.hid (TAB3.out.touch t4 (by simp)); have e1 := cell_old t4 d1; have e2 := cell_old t4 d2; clear t4 d1 d2 T3 TAB3 X3) | (go_at_call 13; refine (npgive_any _ _).mono ?_; rintro e w' ⟨rfl, rfl⟩) | (go_at_call 29; refine (npsetRoot_any _ _ _).mono ?_; rintro e w' ⟨rfl, rfl⟩) | (go_at_call 18; refine (npcommit_any _).mono ?_; rintro e w' ⟨rfl, rfl⟩) | (go_at_call 19; refine (nprollback_any _).mono ?_; rintro e w' ⟨rfl, rfl⟩) | (go_at_call 14; refine (works9_any _ TAB4.out).mono ?_; rintro e w5 ⟨rfl, t5⟩; have T5 := Lib.hid (T4.out.trans t5); clear t5))
  go_ret
  exact ⟨rfl, T5.out⟩
end Go.Proofs.YtkjgbhpnlgcinaaGreatDoor
/-
  What the arguments of the statements of layer 8 read as is what their proofs ask of memory.
-/
namespace Go.Proofs.YtkjgbhpnlgcinaaGreatDoor
open Go.ChangeShapes Go.WideShapes Go.ChangeAt Go.RowKit Go.Cib

theorem own : ownKnob Tryz.prog.godebug = none := by kernel_rfl
theorem laidOut : laidOutB Tryz.prog = true := by kernel_rfl

section
variable {H : Type} {enc : TypeId × Value → H} {P : Program} {w : World}
theorem cells_get {base : Nat} {a : Addr} {n : Nat} {cs : List Value} (h : w.cells? base a n = some cs) : cs.length = n ∧ ∀ j v, cs[j]? = some v → w.cell? (a.add j) = some v := by
  obtain ⟨_, h2, h3⟩ := World.cells?_some h
  exact ⟨h2, fun j v hj => by rw [h3 j (by have := (List.getElem?_eq_some_iff.1 hj).1; omega), hj]⟩
theorem plain_addr {a : Addr} {v : Value} (h : w.cell? a = some v) : ∃ b o, a = ⟨b, o, none⟩ := by
  obtain ⟨b, o, s⟩ := a
  cases s with
  | none => exact ⟨b, o, rfl⟩
  | some x =>
    exfalso
    unfold World.cell? at h
    simp only [Option.isSome_some, if_true] at h
    split at h <;> simp at h
/-- A slice of integers. -/
theorem ints_of_trod {t e : TypeId} (ht : P.underlying t = some (.slice e)) (he : P.underlying e = some (.int .i64)) (hc : P.cellsOf e = 1) {fuel : Nat} {v : Value} {x : DataW H × List MemPlace} (h : DataW.trod enc P w 0 (fun _ => true) true fuel t [v] = some x) :
    ∃ (a : Option Addr) (l : List Int) (cap : Nat), v = .slice a l.length cap ∧ IntsAt w a l ∧ l.length ≤ maxLen ∧ (∀ n ∈ l, -9223372036854775808 ≤ n ∧ n ≤ 9223372036854775807) := by
  rcases open_ints ht he hc h with ⟨hcs, _⟩ | ⟨a, l, c, zs, hcs, _, hl, hm, hz, _, hcell, hwz⟩
  · simp at hcs
    exact ⟨none, [], 0, hcs, by intro j x hj; simp at hj, by simp, by simp⟩
  · simp at hcs
    have hlen : (zs.take l).length = l := by rw [List.length_take]; simp at hz; omega
    refine ⟨some a, zs.take l, c, by rw [hlen]; exact hcs, fun j x hj => ?_, by rw [hlen]; omega, fun n hn => ?_⟩
    · have hjl := (List.getElem?_eq_some_iff.1 hj).1
      rw [hlen] at hjl
      have hzj : zs[j]? = some x := by rw [List.getElem?_take, if_pos hjl] at hj; exact hj
      have hjz := (List.getElem?_eq_some_iff.1 hzj).1
      have hcj := hcell j hjz
      rw [List.getD_eq_getElem?_getD, hzj] at hcj
      obtain ⟨b, o, hbo⟩ := plain_addr hcj
      obtain ⟨b', o', s'⟩ := a
      by_cases hj0 : j = 0
      · subst hj0
        simp only [Addr.add, if_true] at hbo hcj
        rw [hbo] at hcj
        exact ⟨b, o, congrArg some hbo, by simpa using hcj⟩
      · have h0 := hcell 0 (by omega)
        obtain ⟨b0, o0, h00⟩ := plain_addr h0
        simp only [Addr.add, if_true] at h00
        cases h00
        rw [add_mk] at hcj
        exact ⟨_, _, rfl, hcj⟩
    · have := hwz n (List.mem_of_mem_take hn)
      simp only [Lit.wf, Bool.and_eq_true, decide_eq_true_eq] at this
      exact this
/-- A slice of texts. -/
theorem texts_of_trod {t e : TypeId} (ht : P.underlying t = some (.slice e)) (he : P.underlying e = some .string) (hc : P.cellsOf e = 1) {fuel : Nat} {v : Value} {x : DataW H × List MemPlace} (h : DataW.trod enc P w 0 (fun _ => true) true fuel t [v] = some x) :
    ∃ (a : Option Addr) (l : List ByteArray) (cap : Nat), v = .slice a l.length cap ∧ TextsAt w a l ∧ l.length ≤ maxLen ∧ ∀ s ∈ l, s.size ≤ maxLen := by
  rcases Deep.open_strs ht he hc h with ⟨hcs, _⟩ | ⟨a, len, cap, m, Sx, hcs, _, hl, hm, hmm, _, hel⟩
  · simp at hcs
    exact ⟨none, [], 0, hcs, by intro j x hj; simp at hj, by simp, by simp⟩
  · simp at hcs hmm
    refine ⟨some a, (List.range len).map Sx, cap, by simpa using hcs, fun j s hj => ?_, by simp; omega, fun s hs => ?_⟩
    · have hjl := (List.getElem?_eq_some_iff.1 hj).1
      simp only [List.length_map, List.length_range] at hjl
      have ho : Sx j = s := by simpa [hjl] using hj
      subst ho
      have hcj := (hel j (by omega)).1
      obtain ⟨b, o, hbo⟩ := plain_addr hcj
      obtain ⟨b', o', s'⟩ := a
      by_cases hj0 : j = 0
      · subst hj0
        simp only [Addr.add, if_true] at hbo hcj
        rw [hbo] at hcj
        exact ⟨b, o, congrArg some hbo, by simpa using hcj⟩
      · have h0 := (hel 0 (by omega)).1
        obtain ⟨b0, o0, h00⟩ := plain_addr h0
        simp only [Addr.add, if_true] at h00
        cases h00
        rw [add_mk] at hcj
        exact ⟨_, _, rfl, hcj⟩
    · obtain ⟨j, hj, rfl⟩ := List.mem_map.1 hs
      exact (hel j (by have := List.mem_range.1 hj; omega)).2
end

section
variable {H : Type} {enc : TypeId × Value → H} {w : World}
theorem cellsInt : Tryz.prog.cellsOf 3 = 1 := by kernel_rfl
theorem cellsStr : Tryz.prog.cellsOf 9 = 1 := by kernel_rfl
theorem cellsInts : Tryz.prog.cellsOf 22 = 1 := by kernel_rfl
end
end Go.Proofs.YtkjgbhpnlgcinaaGreatDoor
/-
  What the arguments of the statements of layer 9 read as is what their proofs ask of memory.
-/
namespace Go.Proofs.YtkjgbhpnlgcinaaGreatDoor
open Go.ChangeShapes Go.WideShapes Go.ChangeAt Go.RowKit Go.Cib
structure Op9V where
  what : Int
  i : Int
  n : Int
  text : ByteArray
  ka : Option Addr
  kcap : Nat
  keep : List Int
abbrev Op9V.val (o : Op9V) : Array Value := #[.int .i64 o.what, .int .i64 o.i, .int .i64 o.n, .string o.text, .slice o.ka o.keep.length o.kcap]
abbrev Op9V.cells (o : Op9V) : Obj := .cells o.val 46
/-- What holds of an op, wherever it lies. -/
structure Op9Ok (w : World) (o : Op9V) : Prop where
  keep : IntsAt w o.ka o.keep
  len : o.keep.length ≤ maxLen
  txt : o.text.size ≤ maxLen
  ilo : -9223372036854775808 ≤ o.i
  ihi : o.i ≤ 9223372036854775807
  nlo : -9223372036854775808 ≤ o.n
  nhi : o.n ≤ 9223372036854775807
def Op9At (w : World) (b off : Nat) (o : Op9V) : Prop := (∀ j v, o.val[j]? = some v → w.cell? ⟨b, off + j, none⟩ = some v) ∧ Op9Ok w o
def Ops9At (w : World) (a : Option Addr) (os : List Op9V) : Prop :=
  ∀ (j : Nat) (o : Op9V), os[j]? = some o → ∃ b off, a = some ⟨b, off, none⟩ ∧ Op9At w b (off + j * 5) o
theorem Op9Ok.later {w w' : World} {o : Op9V} (h : Op9Ok w o) (ht : Tch [] w w') : Op9Ok w' o := ⟨h.keep.touch ht (by simp), h.len, h.txt, h.ilo, h.ihi, h.nlo, h.nhi⟩
theorem Op9At.later {w w' : World} {b off : Nat} {o : Op9V} (h : Op9At w b off o) (ht : Tch [] w w') : Op9At w' b off o := ⟨fun j v hj => cell_old ht (h.1 j v hj), h.2.later ht⟩
theorem Ops9At.later {w w' : World} {a : Option Addr} {os : List Op9V} (h : Ops9At w a os) (ht : Tch [] w w') : Ops9At w' a os := fun j o hj => by
  obtain ⟨b, off, h1, h2⟩ := h j o hj
  exact ⟨b, off, h1, h2.later ht⟩
theorem box9 {w : World} {X : Nat} {o : Op9V} (h : w.heap[X]? = some o.cells) : ∀ j v, o.val[j]? = some v → w.cell? ⟨X, j, none⟩ = some v := fun j v hj => by
  rw [cell_of_row w X j _ _ _ h]; exact hj
section
variable {H : Type} {enc : TypeId × Value → H} {w : World}
theorem cellsPlace9 : Tryz.prog.cellsOf 28 = 2 := by kernel_rfl
theorem cellsOp9 : Tryz.prog.cellsOf 46 = 5 := by kernel_rfl
set_option maxRecDepth 20000 in
theorem place9_of_trod {fuel : Nat} {cs : List Value} {x : DataW H × List MemPlace} (h : DataW.trod enc Tryz.prog w 0 (fun _ => true) true fuel 28 cs = some x) :
    ∃ (s l : Int), cs = [.int .i64 s, .int .i64 l] ∧ (-9223372036854775808 ≤ s ∧ s ≤ 9223372036854775807) ∧ -9223372036854775808 ≤ l ∧ l ≤ 9223372036854775807 := by
  obtain ⟨xs, n, _, _, hl, hlen, hf⟩ := DataW.trod_struct Tryz.underlying28 h
  rw [cellsPlace9] at hl
  match xs, hlen with
  | [y0, y1], _ =>
    match cs, hl with
    | [v0, v1], _ =>
      have g0 : DataW.trod enc Tryz.prog w 0 (fun _ => true) true n 3 [v0] = some y0 := by simpa [cellsInt] using hf 0 _ rfl
      have g1 : DataW.trod enc Tryz.prog w 0 (fun _ => true) true n 3 [v1] = some y1 := by simpa [cellsInt] using hf 1 _ rfl
      obtain ⟨a0, e0, _, w0⟩ := DataW.trod_int Tryz.underlying3 g0
      obtain ⟨a1, e1, _, w1⟩ := DataW.trod_int Tryz.underlying3 g1
      simp only [List.cons.injEq, and_true] at e0 e1
      subst e0 e1
      simp only [Lit.wf, Bool.and_eq_true, decide_eq_true_eq] at w0 w1
      exact ⟨a0, a1, rfl, w0, w1⟩
set_option maxRecDepth 20000 in
/-- One op, with its bounds. -/
theorem op9_of_trod {fuel : Nat} {cs : List Value} {x : DataW H × List MemPlace} (h : DataW.trod enc Tryz.prog w 0 (fun _ => true) true fuel 46 cs = some x) :
    ∃ o : Op9V, cs = o.val.toList ∧ Op9Ok w o := by
  obtain ⟨xs, n, _, _, hl, hlen, hf⟩ := DataW.trod_struct Tryz.underlying46 h
  rw [cellsOp9] at hl
  match xs, hlen with
  | [y0, y1, y2, y3, y4], _ =>
    match cs, hl with
    | [v0, v1, v2, v3, v4], _ =>
      have g0 : DataW.trod enc Tryz.prog w 0 (fun _ => true) true n 3 [v0] = some y0 := by simpa [cellsInt] using hf 0 _ rfl
      have g1 : DataW.trod enc Tryz.prog w 0 (fun _ => true) true n 3 [v1] = some y1 := by simpa [cellsInt] using hf 1 _ rfl
      have g2 : DataW.trod enc Tryz.prog w 0 (fun _ => true) true n 3 [v2] = some y2 := by simpa [cellsInt] using hf 2 _ rfl
      have g3 : DataW.trod enc Tryz.prog w 0 (fun _ => true) true n 9 [v3] = some y3 := by simpa [cellsStr] using hf 3 _ rfl
      have g4 : DataW.trod enc Tryz.prog w 0 (fun _ => true) true n 22 [v4] = some y4 := by simpa [cellsInts] using hf 4 _ rfl
      obtain ⟨a0, e0, _, _⟩ := DataW.trod_int Tryz.underlying3 g0
      obtain ⟨a1, e1, _, w1⟩ := DataW.trod_int Tryz.underlying3 g1
      obtain ⟨a2, e2, _, w2⟩ := DataW.trod_int Tryz.underlying3 g2
      obtain ⟨a3, e3, _, w3⟩ := DataW.trod_string Tryz.underlying9 g3
      obtain ⟨a4, l4, c4, e4, h4, h5, _⟩ := ints_of_trod Tryz.underlying22 Tryz.underlying3 cellsInt g4
      simp only [List.cons.injEq, and_true] at e0 e1 e2 e3
      subst e0 e1 e2 e3 e4
      simp only [Lit.wf, Bool.and_eq_true, decide_eq_true_eq] at w1 w2
      exact ⟨⟨a0, a1, a2, a3, a4, c4, l4⟩, rfl, ⟨h4, h5, by first | exact w3 | simpa [Lit.wf] using w3, w1.1, w1.2, w2.1, w2.2⟩⟩
/-- A script. -/
theorem ops9_of_trod {fuel : Nat} {v : Value} {x : DataW H × List MemPlace} (h : DataW.trod enc Tryz.prog w 0 (fun _ => true) true fuel 37 [v] = some x) :
    ∃ (a : Option Addr) (os : List Op9V) (cap : Nat), v = .slice a os.length cap ∧ Ops9At w a os ∧ os.length ≤ maxLen ∧ os.length ≤ cap := by
  rcases Deep.open_slice Tryz.underlying37 h with ⟨hcs, _⟩ | ⟨a, len, cap, m, n, D, Pl, hcs, _, hl, hm, hmm, _, hel⟩
  · simp at hcs
    exact ⟨none, [], 0, hcs, by intro j x hj; simp at hj, by simp, Nat.le_refl _⟩
  · simp at hcs hmm
    rw [cellsOp9] at hel
    have hall : ∀ i, i < len → ∃ o : Op9V, w.cells? 0 (a.add (i * 5)) 5 = some o.val.toList ∧ Op9Ok w o := by
      intro i hi
      obtain ⟨cs', h1, h2⟩ := hel i (by omega)
      obtain ⟨o, rfl, h3⟩ := op9_of_trod h2
      exact ⟨o, h1, h3⟩
    haveI : Inhabited Op9V := ⟨⟨0, 0, 0, ByteArray.empty, none, 0, []⟩⟩
    obtain ⟨f, hf⟩ := Deep.choose_lt hall
    refine ⟨some a, (List.range len).map f, cap, by simpa using hcs, fun j o hj => ?_, by simp; omega, by simp; omega⟩
    have hjl := (List.getElem?_eq_some_iff.1 hj).1
    simp only [List.length_map, List.length_range] at hjl
    have ho : f j = o := by simpa [hjl] using hj
    obtain ⟨h1, h3⟩ := hf j hjl
    rw [ho] at h1 h3
    obtain ⟨_, hc⟩ := cells_get h1
    obtain ⟨b, off, hba⟩ : ∃ b off, a = ⟨b, off, none⟩ := by
      have h0 := hc 0 (.int .i64 o.what) rfl
      obtain ⟨b, o', hbo⟩ := plain_addr h0
      obtain ⟨b', o'', s'⟩ := a
      by_cases hj0 : j = 0
      · subst hj0
        simp [Addr.add] at hbo
        exact ⟨b', o'', by simp [hbo.2.2]⟩
      · obtain ⟨h1', _⟩ := hf 0 (by omega)
        obtain ⟨_, hc'⟩ := cells_get h1'
        have h00 := hc' 0 (.int .i64 (f 0).what) rfl
        obtain ⟨b2, o2, hbo2⟩ := plain_addr h00
        simp [Addr.add] at hbo2
        exact ⟨b', o'', by simp [hbo2.2.2]⟩
    subst hba
    refine ⟨b, off, rfl, fun k v hk => ?_, h3⟩
    have := hc k v (by rw [Array.getElem?_toList]; exact hk)
    rw [add_mk, add_mk] at this
    exact this
end
end Go.Proofs.YtkjgbhpnlgcinaaGreatDoor
/-
  The table of package math/bits that the rows of layer 9 list: from the rows' condition to what the walks ask; a world that meets it.
-/
namespace Go.Proofs.YtkjgbhpnlgcinaaGreatDoor
open Go.RowKit Go.Cib
theorem door_gT : Tryz.prog.globalNamed "math/bits.deBruijn64tab" = some 0 := by kernel_rfl
theorem door_gType : (Tryz.prog.globals[0]?).map (·.type) = some 150 := by kernel_rfl
theorem door_tab : (Rows.laid_math_bits_deBruijn64tab : DataW Unit) = Lib.tabData .u8 (deBruijn.map fun (x : Nat) => (x : Int)) := by
  unfold Rows.laid_math_bits_deBruijn64tab Lib.tabData deBruijn
  rfl
theorem tab_of_laid {W : World} (h : laidMetH Tryz.prog [("math/bits.deBruijn64tab", Rows.laid_math_bits_deBruijn64tab)] W) : Tab W := by
  rw [door_tab] at h
  have hm : laidMet Tryz.prog [("math/bits.deBruijn64tab", Lib.tabData .u8 (deBruijn.map fun (x : Nat) => (x : Int)))] W := h
  have ht := Lib.tabIs_of_head door_gT door_gType Tryz.underlying150 Tryz.underlying5 (by kernel_rfl) (by kernel_rfl) hm
  intro i x hi
  have hl := (List.getElem?_eq_some_iff.1 hi).1
  have := ht.cell door_gT i (by simpa using hl)
  rw [this]
  congr 2
  rw [List.getD_eq_getElem?_getD, List.getElem?_map, hi]
  rfl
/-- The settled world, the table laid. -/
noncomputable def doorWorld (os : Os) : World :=
  { World.holding Tryz.prog os ⟨#[], #[], []⟩ with heap := (World.holding Tryz.prog os ⟨#[], #[], []⟩).heap.modify 0 fun
      | .cells _ t frozen => .cells (deBruijn.map fun (z : Nat) => Value.int .u8 (z : Int)).toArray t frozen
      | o => o }
theorem door_met (os : Os) (args : Array Value) : laidMetH Tryz.prog [("math/bits.deBruijn64tab", Rows.laid_math_bits_deBruijn64tab)] ((doorWorld os).forCall (fun _ _ => 0) ⟨#[], args, []⟩).memory :=
  laidMetH_of_parts (laidMet_of_run' 8 (by kernel_rfl) (by kernel_rfl)) (by kernel_rfl)
end Go.Proofs.YtkjgbhpnlgcinaaGreatDoor
/-
  Taking and giving back, plain: what PageAll asks.
-/
namespace Go.Cib
open Go Go.RowKit
theorem cnt_below (a : Nat) : ∀ n, cnt (fun k => decide (k < a)) n = min a n
  | 0 => by simp [cnt]
  | n + 1 => by
    unfold cnt
    rw [cnt_below a n]
    by_cases h : n < a
    · simp [h]; omega
    · simp [h]; omega
theorem StS.free_below (s : StS) {a pages : Nat} (h : ∀ k, s.taken k = decide (k < a)) (ha : a ≤ pages) : s.free pages = pages - a := by
  have e : s.taken = fun k => decide (k < a) := funext h
  have h1 := s.free_cnt pages (fun n hn => by rw [h]; exact decide_eq_false (by omega)) pages (Nat.le_refl _)
  rw [e, cnt_below] at h1
  omega
namespace PgS
variable {P : PgS}
theorem take_at (ok : P.Ok) {m : Nat} (hm : m < P.pages) (h0 : P.now.taken m = false) (h1 : ∀ j, j < m → P.now.taken j = true) :
    P.take = (((m : Int), 0), { P with now := P.now.set m true, over := fun j => if j = (m : Int) then some Arr.zero else P.over j }) := by
  obtain ⟨q, q1, q2, q3, q4⟩ := P.now.first_spec P.pages (ok.now _ (Nat.le_refl _))
  have : q = m := by
    rcases Nat.lt_trichotomy q m with h | h | h
    · rw [h1 q h] at q2; cases q2
    · exact h
    · rw [q3 m h] at h0; cases h0
  subst this
  unfold PgS.take
  rw [q4, if_pos hm]
theorem take_full (ok : P.Ok) (h1 : ∀ j, j < P.pages → P.now.taken j = true) : P.take = ((0, 5), P) := by
  obtain ⟨q, q1, q2, q3, q4⟩ := P.now.first_spec P.pages (ok.now _ (Nat.le_refl _))
  have : q = P.pages := by
    rcases Nat.lt_or_ge q P.pages with h | h
    · rw [h1 q h] at q2; cases q2
    · omega
  unfold PgS.take
  rw [q4, if_neg (by omega)]
/-- What PageAll knows of pages. -/
structure Is (P : PgS) (n : Nat) (f : Nat → Bool) : Prop where
  ok : P.Ok
  pages : P.pages = 2 + n
  taken : ∀ k, P.now.taken k = f k
  roots : ∀ k, P.now.roots k = 0
/-- Which are taken where some of them were given back, from the k-th on. -/
def given (n : Nat) (bs : List Bool) (k j : Nat) : Bool := decide (j < 2 + n) && !(decide (2 + k ≤ j) && bs.getD (j - 2) false)
theorem given_lt {n : Nat} {bs : List Bool} {k j : Nat} (h : j < 2 + k) (hk : k ≤ n) : given n bs k j = true := by
  unfold given
  rw [decide_eq_true (by omega), decide_eq_false (show ¬ 2 + k ≤ j by omega)]
  rfl
theorem given_at {n : Nat} {bs : List Bool} {k : Nat} (hk : k < n) : given n bs k (2 + k) = !bs.getD k false := by
  unfold given
  rw [decide_eq_true (by omega), decide_eq_true (Nat.le_refl _), show 2 + k - 2 = k by omega]
  simp
theorem given_end {n : Nat} {bs : List Bool} (hl : bs.length = n) (j : Nat) : given n bs n j = decide (j < 2 + n) := by
  unfold given
  by_cases h : 2 + n ≤ j
  · rw [decide_eq_false (show ¬ j < 2 + n by omega)]; rfl
  · rw [decide_eq_false h]; simp
theorem given_none (n j : Nat) : given n (List.replicate n false) 0 j = decide (j < 2 + n) := by
  unfold given
  have : (List.replicate n false).getD (j - 2) false = false := by
    rw [List.getD_eq_getElem?_getD, List.getElem?_replicate]
    split <;> rfl
  rw [this]; simp
theorem given_next {n : Nat} {bs : List Bool} {k : Nat} (hk : k < n) (j : Nat) : given n bs (k + 1) j = if j = 2 + k then true else given n bs k j := by
  unfold given
  by_cases e : j = 2 + k
  · rw [if_pos e, decide_eq_true (by omega), decide_eq_false (show ¬ 2 + (k + 1) ≤ j by omega)]; rfl
  · rw [if_neg e]
    have : decide (2 + (k + 1) ≤ j) = decide (2 + k ≤ j) := by rw [decide_eq_decide]; omega
    rw [this]
theorem given_set {n : Nat} {bs : List Bool} (hl : bs.length = n) {k : Nat} (hk : k < n) (j : Nat) : given n (bs.set k true) 0 j = if j = 2 + k then false else given n bs 0 j := by
  unfold given
  rw [List.getD_eq_getElem?_getD, List.getElem?_set]
  by_cases e : j = 2 + k
  · rw [if_pos (by omega), if_pos (by omega), if_pos e, decide_eq_true (show 2 + 0 ≤ j by omega)]; simp
  · rw [if_neg e]
    by_cases h2 : 2 ≤ j
    · rw [if_neg (by omega), ← List.getD_eq_getElem?_getD]
    · rw [decide_eq_false (show ¬ 2 + 0 ≤ j by omega)]; rfl
theorem Is.take {n k : Nat} {f : Nat → Bool} (h : P.Is n f) (hk : k < n) (h0 : f (2 + k) = false) (h1 : ∀ j, j < 2 + k → f j = true) :
    ∃ P2, P.take = ((((2 + k : Nat) : Int), 0), P2) ∧ P2.Is n (fun j => if j = 2 + k then true else f j) := by
  have ht := take_at h.ok (m := 2 + k) (by have := h.pages; omega) (by rw [h.taken]; exact h0) (fun j hj => by rw [h.taken]; exact h1 j hj)
  have ok := h.ok.take (by rw [h.taken]; exact h1 0 (by omega)) (by rw [h.taken]; exact h1 1 (by omega))
  rw [ht] at ok
  refine ⟨_, ht, ⟨ok, h.pages, fun j => ?_, h.roots⟩⟩
  show (if j = 2 + k then true else P.now.taken j) = _
  rw [h.taken]
theorem Is.full {n : Nat} {f : Nat → Bool} (h : P.Is n f) (h1 : ∀ j, j < 2 + n → f j = true) : P.take = ((0, 5), P) :=
  take_full h.ok fun j hj => by rw [h.taken]; exact h1 j (by have := h.pages; omega)
theorem Is.free {n a : Nat} {f : Nat → Bool} (h : P.Is n f) (hf : ∀ j, f j = decide (j < a)) (ha : a ≤ 2 + n) : P.now.free P.pages = 2 + n - a := by
  rw [P.now.free_below (a := a) (fun k => by rw [h.taken, hf]) (by rw [h.pages]; exact ha), h.pages]
theorem Is.give {n k : Nat} {bs : List Bool} (h : P.Is n (given n bs 0)) (hl : bs.length = n) (hk : k < n) :
    ∃ P2, P.give ((2 + k : Nat) : Int) = (if bs.getD k false = true then 91 else 0, P2) ∧ P2.Is n (given n (bs.set k true) 0) := by
  have hat : given n bs 0 (2 + k) = !bs.getD k false := by
    unfold given
    rw [decide_eq_true (by omega), decide_eq_true (show 2 + 0 ≤ 2 + k by omega), show 2 + k - 2 = k by omega]
    simp
  have hm : P.may ((2 + k : Nat) : Int) = if bs.getD k false = true then 91 else 0 := by
    unfold PgS.may
    rw [if_neg (by have := h.pages; omega), Int.toNat_natCast, h.taken, hat]
    cases bs.getD k false <;> rfl
  cases hb : bs.getD k false with
  | true =>
    rw [hb] at hm
    refine ⟨P, ?_, ⟨h.ok, h.pages, fun j => ?_, h.roots⟩⟩
    · unfold PgS.give
      rw [if_pos (by rw [hm]; decide), hm]
    · rw [h.taken, given_set hl hk]
      by_cases e : j = 2 + k
      · rw [if_pos e, e, hat, hb]; rfl
      · rw [if_neg e]
  | false =>
    rw [hb] at hm
    have hm : P.may ((2 + k : Nat) : Int) = 0 := hm
    have hr : ¬ P.isRoot ((2 + k : Nat) : Int) = true := by
      unfold isRoot
      rw [List.any_eq_true]
      rintro ⟨i, _, hi⟩
      rw [h.roots] at hi
      simp only [decide_eq_true_eq] at hi
      omega
    have hg : P.give ((2 + k : Nat) : Int) = (0, { P with now := P.now.set (2 + k) false, over := fun j => if j = ((2 + k : Nat) : Int) then none else P.over j }) := by
      unfold PgS.give
      rw [if_neg (by rw [hm]; decide), if_neg hr, Int.toNat_natCast]
    have ok := h.ok.give ((2 + k : Nat) : Int)
    rw [hg] at ok
    refine ⟨_, hg, ⟨ok, h.pages, fun j => ?_, h.roots⟩⟩
    show (if j = 2 + k then false else P.now.taken j) = _
    rw [h.taken, given_set hl hk]
end PgS
end Go.Cib
/-
  As many pages can be taken as are free, each once: the walk of PageAll.
-/
namespace Go.Proofs.YtkjgbhpnlgcinaaGreatDoor
open Go.RowKit Go.Cib
open BegunP
theorem mod_pos (x : Int) {n : Nat} (h : 1 ≤ n) : 0 ≤ (x.tmod n + n).tmod n ∧ (x.tmod n + n).tmod n < n ∧ -(n : Int) < x.tmod n ∧ x.tmod n < n := by
  have hn : (0 : Int) < n := by omega
  have h1 := Int.tmod_lt_of_pos x hn
  have h2 : -(n : Int) < x.tmod n := by have := Int.lt_tmod_of_pos x hn; omega
  have h3 : 0 ≤ x.tmod n + n := by omega
  exact ⟨Int.tmod_nonneg _ h3, Int.tmod_lt_of_pos _ hn, h2, h1⟩
/-- While pages are taken and given back. -/
structure AllR (w wr : World) (p g d L M V Mo n B : Nat) (bs : List Bool) (f : Nat → Bool) (P : PgS) : Prop where
  at_ : PgAt wr p g d L M V Mo P
  is : P.Is n f
  bools : BoolsAt wr B bs
  hlt : w.heap.size ≤ B
  apart : B ∉ 0 :: pgB p g d L M V Mo
  tch : Tch [] w wr
theorem AllR.turn {w wr w' : World} {p g d L M V Mo n B : Nat} {bs : List Bool} {f f' : Nat → Bool} {P P' : PgS} (h : AllR w wr p g d L M V Mo n B bs f P) (hw : ∀ x ∈ pgB p g d L M V Mo, w.heap.size ≤ x) {X : List Nat} (hX : ∀ x ∈ X, x ∈ pgB p g d L M V Mo) (ha : PgAt w' p g d L M V Mo P') (hi : P'.Is n f') (ht : Tch X wr w') : AllR w w' p g d L M V Mo n B bs f' P' :=
  ⟨ha, hi, h.bools.touch ht (fun hm => h.apart (List.mem_cons_of_mem _ (hX _ hm))), h.hlt, h.apart, tch_own h.tch ht fun k hk => hw k (hX k hk)⟩
theorem AllR.mark {w wr : World} {p g d L M V Mo n B : Nat} {bs : List Bool} {f : Nat → Bool} {P : PgS} (h : AllR w wr p g d L M V Mo n B bs f P) (i : Nat) : AllR w (wr.setCell ⟨B, i, none⟩ (.bool true)) p g d L M V Mo n B (bs.set i true) f P := by
  have t : Tch [B] wr (wr.setCell ⟨B, i, none⟩ (.bool true)) := (Tch.refl _ _).setCell (by simp) _
  refine ⟨h.at_.touch t fun k hk hm => ?_, h.is, h.bools.mark i true, h.hlt, h.apart, tch_own h.tch t fun k hk => by rw [List.mem_singleton.1 hk]; exact h.hlt⟩
  rw [List.mem_singleton.1 hm] at hk
  exact h.apart hk
set_option maxRecDepth 20000 in
set_option maxHeartbeats 4000000 in
theorem pageAll_any (w : World) (tab : Tab w) (many : Int) (_hm1 : -9223372036854775808 ≤ many) (_hm2 : many ≤ 9223372036854775807) (ba : Option Addr) (cap : Nat) {back : List Int} (hI : IntsAt w ba back) (hl : back.length ≤ 9223372036854775807) (hb : ∀ x ∈ back, -9223372036854775808 ≤ x ∧ x ≤ 9223372036854775807) :
    Calls Tryz.prog 3 #[.int .i64 many, .slice ba back.length cap] w fun e w' => e = .returned (.bool true) ∧ Tch [] w w' := by
  have mm := mod_pos many (n := 300) (by decide)
  rw [show ((300 : Nat) : Int) = 300 from rfl] at mm
  obtain ⟨m0, m1, m2, m3⟩ := mm
  obtain ⟨n, hn⟩ : ∃ n : Nat, 1 + (many.tmod 300 + 300).tmod 300 = (n : Int) := ⟨(1 + (many.tmod 300 + 300).tmod 300).toNat, by omega⟩
  have n1 : 1 ≤ n := by omega
  have n2 : n ≤ 300 := by omega
  have e1 : wrap64 (many.tmod 300 + 300) = many.tmod 300 + 300 := by unfold wrap64; omega
  have e2 : wrap64 (1 + (many.tmod 300 + 300).tmod 300) = (n : Int) := by rw [hn]; unfold wrap64; omega
  have e3 : wrap64 (13 + (n : Int)) = ((2 + 9 + (2 + n) : Nat) : Int) := by unfold wrap64; omega
  have E1 := Lib.hid e1
  have E2 := Lib.hid e2
  have E3 := Lib.hid e3
  have N1 := Lib.hid n1
  have N2 := Lib.hid n2
  have TAB := Lib.hid tab
  have HI := Lib.hid hI
  have HB := Lib.hid hb
  clear e1 e2 e3 n1 n2 tab hI hb m0 m1 m2 m3 hn
  go_enter Tryz.func3, Tryz.ntmps3
  go_upto_region 2 with fail
  rw [E1.out, E2.out]
  go_wp2_with fail
  rw [E3.out]
  refine (made_any w (k := 9) (h := 2 + n) ⟨by decide, by decide, by omega, by have := N2.out; omega⟩ (by have := N1.out; omega) (by have := N2.out; omega) (by decide) TAB.out).mono ?_
  rintro e w1 ⟨p, g, d, L, M, V, Mo, P, base, rfl, h0, hn, t1, own⟩
  have hfr : P.now.free P.pages = n := by
    rw [P.now.free_below (a := 2) (fun k => by rw [hn.now]; rfl) (by rw [hn.pages]; omega), hn.pages]; omega
  have his : P.Is n (fun k => decide (k < 2)) := ⟨hn.snd.ok, hn.pages, fun k => by rw [hn.now]; rfl, fun k => by rw [hn.now]; rfl⟩
  have FR := Lib.hid hfr
  have IS := Lib.hid his
  have H0 := Lib.hid h0
  have T1 := Lib.hid t1
  have OWN := Lib.hid own
  clear h0 hn t1 own hfr his E1 E2 E3
  go_upto_region 5 with (first | (go_at_call 10; refine (pfree_any H0.out IS.out.ok).mono ?_; rintro e w2 ⟨rfl, t2⟩; rw [FR.out]; have T2 := Lib.hid (T1.out.trans t2); have H1 := Lib.hid (H0.out.old t2); clear t2 H0 T1) | (go_at_call 11; refine (pfirst_any H1.out).mono ?_; rintro e w' ⟨rfl, rfl⟩))
  go_wp2_with fail
  go_loopg [8] n (fun q i wr => ∃ j P, OnAt n i q j ∧ PgAt wr p g d L M V Mo P ∧ P.Is n (fun k => decide (k < 2 + j)) ∧ Tch [] w wr)
  case atStart => exact ⟨0, P, ⟨Nat.zero_le _, rfl, rfl⟩, H1.out, IS.out, T2.out⟩
  case round =>
    clear H1 IS T2 FR
    obtain ⟨j, P, ⟨hj, rfl, rfl⟩, h1, his, ht⟩ := hrel
    have H1 := Lib.hid h1
    have IS := Lib.hid his
    have T2 := Lib.hid ht
    clear h1 his ht
    by_cases hjn : j < n
    · obtain ⟨P2, hp2, is2⟩ := IS.out.take hjn (by simp) (fun i hi => by simp; omega)
      have is3 : P2.Is n (fun k => decide (k < 2 + (j + 1))) := ⟨is2.ok, is2.pages, fun k => by
        rw [is2.taken]
        by_cases e : k = 2 + j
        · rw [if_pos e, decide_eq_true (by omega)]
        · rw [if_neg e, decide_eq_decide]; omega, is2.roots⟩
      have fr := is3.free (fun _ => rfl) (by omega)
      have eT : (((2 + j : Nat)) : Int) = wrap64 (2 + (j : Int)) := by have := N2.out; unfold wrap64; omega
      have eF : ((2 + n - (2 + (j + 1)) : Nat) : Int) = wrap64 (wrap64 ((n : Int) - 1) - (j : Int)) := by have := N2.out; unfold wrap64; omega
      have P2' := Lib.hid hp2
      have IS3 := Lib.hid is3
      have FR := Lib.hid fr
      have ET := Lib.hid eT
      have EF := Lib.hid eF
      clear hp2 is2 is3 fr eT eF
      go_wp2_with (first | (go_at_call 12; refine (ptake_any H1.out IS.out.ok).mono ?_; rintro e w3 ⟨rfl, h3, t3⟩; rw [P2'.out] at h3 ⊢; simp only; rw [ET.out]; have H3 := Lib.hid h3; have T3 := Lib.hid (tch_own T2.out t3 (fun k hk => OWN.out k (by simp only [List.mem_cons, List.not_mem_nil, or_false] at hk ⊢; omega))); clear h3 t3 H1 T2) | (go_at_call 10; refine (pfree_any H3.out IS3.out.ok).mono ?_; rintro e w4 ⟨rfl, t4⟩; rw [FR.out, EF.out]; have T4 := Lib.hid (T3.out.trans t4); have H4 := Lib.hid (H3.out.old t4); clear t4 H3 T3))
      go_roundg (n - (j + 1))
      case measure => omega
      case rel =>
        have n2 := N2.out
        have ej : wrap64 ((j : Int) + 1) = ((j + 1 : Nat) : Int) := by have n2 := N2.out; unfold wrap64; omega
        exact ⟨j + 1, P2, ⟨by omega, by rw [ej], rfl⟩, H4.out, IS3.out, T4.out⟩
    · have hjm : j = n := by omega
      subst hjm
      have full := IS.out.full (fun i hi => by simpa using hi)
      have FULL := Lib.hid full
      have n2 := N2.out
      clear full hj hjn
      go_upto_region 14 with (go_at_call 12; refine (ptake_any H1.out IS.out.ok).mono ?_; rintro e w3 ⟨rfl, h3, t3⟩; rw [FULL.out] at h3 ⊢; have H3 := Lib.hid h3; have T3 := Lib.hid (tch_own T2.out t3 (fun k hk => OWN.out k (by simp only [List.mem_cons, List.not_mem_nil, or_false] at hk ⊢; omega))); clear h3 t3 H1 T2)
      have hA : AllR w (w3.alloc (.cells (boolsA (List.replicate j false)) 4)) p g d L M V Mo j w3.heap.size (List.replicate j false) (PgS.given j (List.replicate j false) 0) P :=
        ⟨H3.out.old ((Tch.refl _ _).alloc _), ⟨IS.out.ok, IS.out.pages, fun k => by rw [IS.out.taken, PgS.given_none], IS.out.roots⟩, ⟨heap_alloc_new _ _⟩, T3.out.size, fun hm => by have := H3.out.lt _ hm; omega, T3.out.trans ((Tch.refl _ _).alloc _)⟩
      have HA := Lib.hid hA
      have HLB : Hid ((List.replicate j false).length = j) := by show _ = _; simp
      clear hA H3 T3 IS FULL
      go_upto_region 15 with ((with_reducible apply wc_makeBools uBools9 infoBool1 (m := j)); omega; exact rfl; exact rfl; go_frame)
      clear n2
      generalize w3.alloc (.cells (boolsA (List.replicate j false)) 4) = w4 at *
      generalize w3.heap.size = B at *
      generalize List.replicate j false = bs0 at *
      clear w3
      obtain ⟨m, hm⟩ : ∃ m, back.length = m := ⟨_, rfl⟩
      have HM := Lib.hid hm
      rw [hm] at hl ⊢
      clear hm
      have hj0 : ((j : Int) == 0) = false := by have := N1.out; simp; omega
      go_wp2_with fail
      go_loopg [14] m (fun q i wr => ∃ k bs P, OnAt m i q k ∧ bs.length = j ∧ AllR w wr p g d L M V Mo j B bs (PgS.given j bs 0) P)
      case atStart => exact ⟨0, bs0, P, ⟨Nat.zero_le _, rfl, rfl⟩, HLB.out, HA.out⟩
      case round =>
        clear HA HLB
        obtain ⟨k, bs, P, ⟨hk, rfl, rfl⟩, hlb, ha⟩ := hrel
        have HA := Lib.hid ha
        have HLB := Lib.hid hlb
        clear ha hlb
        by_cases hkm : k < m
        · obtain ⟨x, hx⟩ : ∃ x, back[k]? = some x := ⟨_, List.getElem?_eq_getElem (by rw [HM.out]; exact hkm)⟩
          have hxb := HB.out x (List.mem_of_getElem? hx)
          obtain ⟨ib, io, hia, hc⟩ := HI.out k x hx
          subst hia
          have hc := cell_old HA.out.tch hc
          obtain ⟨x0, x1, x2, x3⟩ := mod_pos x (n := j) N1.out
          obtain ⟨r, hr⟩ : ∃ r : Nat, (x.tmod j + j).tmod j = (r : Int) := ⟨((x.tmod j + j).tmod j).toNat, by omega⟩
          have hrj : r < j := by omega
          have e1 : wrap64 (x.tmod j + j) = x.tmod j + j := by have n2 := N2.out; unfold wrap64; omega
          have e2 : wrap64 (2 + (r : Int)) = ((2 + r : Nat) : Int) := by have n2 := N2.out; unfold wrap64; omega
          have E1 := Lib.hid e1
          have E2 := Lib.hid e2
          have HR := Lib.hid hr
          clear hx x0 x1 x2 x3 e1 e2 hr hxb
          go_upto_region 19 with fail
          rw [E1.out, HR.out]
          obtain ⟨b, hb⟩ : ∃ b, bs[r]? = some b := ⟨_, List.getElem?_eq_getElem (by rw [HLB.out]; exact hrj)⟩
          have hbd : bs.getD r false = b := by rw [List.getD_eq_getElem?_getD, hb]; rfl
          obtain ⟨P2, g1, g2⟩ := HA.out.is.give HLB.out hrj
          rw [hbd] at g1
          have G1 := Lib.hid g1
          have G2 := Lib.hid g2
          have HBR := Lib.hid hb
          clear hbd g1 g2 hb hc
          go_upto_region 20 with (go_at_call 13; rw [E2.out]; refine (pgive_any HA.out.at_ HA.out.is.ok _).mono ?_; rintro e w6 ⟨rfl, h6, t6⟩; rw [G1.out] at h6 ⊢; have HA6 := Lib.hid (HA.out.turn OWN.out (fun k hk => by simp only [List.mem_cons, List.not_mem_nil, or_false] at hk ⊢; omega) h6 G2.out t6); clear h6 t6)
          have cb := HA6.out.bools.cell HBR.out
          have HA7 := Lib.hid (HA6.out.mark r)
          have fb := frozen_of_row w6 B r _ _ HA6.out.bools.at_
          cases b with
          | true =>
            go_wp2_with fail
            go_roundg (m - (k + 1))
            case measure => omega
            case rel =>
              have ek : wrap64 ((k : Int) + 1) = ((k + 1 : Nat) : Int) := by have n2 := N2.out; unfold wrap64; omega
              exact ⟨k + 1, bs.set r true, P2, ⟨by omega, by first | rw [ek] | rfl, rfl⟩, by rw [List.length_set]; exact HLB.out, HA7.out⟩
          | false =>
            go_wp2_with fail
            go_roundg (m - (k + 1))
            case measure => omega
            case rel =>
              have ek : wrap64 ((k : Int) + 1) = ((k + 1 : Nat) : Int) := by have n2 := N2.out; unfold wrap64; omega
              exact ⟨k + 1, bs.set r true, P2, ⟨by omega, by first | rw [ek] | rfl, rfl⟩, by rw [List.length_set]; exact HLB.out, HA7.out⟩
        · have hkm' : k = m := by omega
          subst hkm'
          go_wp2_with fail
          go_loopg [17] j (fun q i wr => ∃ k P, OnAt j i q k ∧ AllR w wr p g d L M V Mo j B bs (PgS.given j bs k) P)
          case atStart => exact ⟨0, P, ⟨Nat.zero_le _, rfl, rfl⟩, HA.out⟩
          case round =>
            clear HA hk hkm
            obtain ⟨k2, P, ⟨hk, rfl, rfl⟩, ha⟩ := hrel
            have HA := Lib.hid ha
            clear ha
            by_cases hkj : k2 < j
            · obtain ⟨b, hb⟩ : ∃ b, bs[k2]? = some b := ⟨_, List.getElem?_eq_getElem (by rw [HLB.out]; exact hkj)⟩
              have hbd : bs.getD k2 false = b := by rw [List.getD_eq_getElem?_getD, hb]; rfl
              have hat := PgS.given_at (bs := bs) hkj
              rw [hbd] at hat
              have cb := HA.out.bools.cell hb
              have ek : wrap64 ((k2 : Int) + 1) = ((k2 + 1 : Nat) : Int) := by have n2 := N2.out; unfold wrap64; omega
              have EK := Lib.hid ek
              have e2 : wrap64 (2 + (k2 : Int)) = ((2 + k2 : Nat) : Int) := by have n2 := N2.out; unfold wrap64; omega
              have E2 := Lib.hid e2
              have HAT := Lib.hid hat
              clear hb hbd hat ek e2
              cases b with
              | false =>
                go_wp2_with fail
                go_roundg (j - (k2 + 1))
                case measure => omega
                case rel =>
                  refine ⟨k2 + 1, P, ⟨by omega, by rw [EK.out], rfl⟩, HA.out.at_, ⟨HA.out.is.ok, HA.out.is.pages, fun i => ?_, HA.out.is.roots⟩, HA.out.bools, HA.out.hlt, HA.out.apart, HA.out.tch⟩
                  rw [HA.out.is.taken, PgS.given_next hkj]
                  by_cases e : i = 2 + k2
                  · rw [if_pos e, e, HAT.out]; rfl
                  · rw [if_neg e]
              | true =>
                obtain ⟨P2, hp2, is2⟩ := HA.out.is.take hkj (by rw [HAT.out]; rfl) (fun i hi => PgS.given_lt hi (by omega))
                have is3 : P2.Is j (PgS.given j bs (k2 + 1)) := ⟨is2.ok, is2.pages, fun i => by rw [is2.taken, PgS.given_next hkj], is2.roots⟩
                have P2' := Lib.hid hp2
                have IS3 := Lib.hid is3
                clear hp2 is2 is3
                go_wp2_with (go_at_call 12; refine (ptake_any HA.out.at_ HA.out.is.ok).mono ?_; rintro e w6 ⟨rfl, h6, t6⟩; rw [P2'.out] at h6 ⊢; simp only; rw [← E2.out]; have HA6 := Lib.hid (HA.out.turn OWN.out (fun k hk => by simp only [List.mem_cons, List.not_mem_nil, or_false] at hk ⊢; omega) h6 IS3.out t6); clear h6 t6)
                go_roundg (j - (k2 + 1))
                case measure => omega
                case rel => exact ⟨k2 + 1, P2, ⟨by omega, by rw [EK.out], rfl⟩, HA6.out⟩
            · have hkm' : k2 = j := by omega
              subst hkm'
              have fr : P.now.free P.pages = 0 := by
                have := HA.out.is.free (a := 2 + k2) (fun i => PgS.given_end HLB.out i) (Nat.le_refl _)
                omega
              have FR := Lib.hid fr
              clear fr
              go_wp2_with (first | (go_at_call 10; refine (pfree_any HA.out.at_ HA.out.is.ok).mono ?_; rintro e w6 ⟨rfl, t6⟩; rw [FR.out]; have T6 := Lib.hid (HA.out.tch.trans t6); clear t6) | (go_at_call 14; refine (works9_any _ (TAB.out.touch T6.out (by simp))).mono ?_; rintro e w7 ⟨rfl, t7⟩; have T7 := Lib.hid (T6.out.trans t7); clear t7))
              go_ret
              exact ⟨rfl, T7.out⟩
end Go.Proofs.YtkjgbhpnlgcinaaGreatDoor
/-
  As many pages can be taken as are free, each once, rising, and no more; those that are given back can be taken again: PageAll answers true at every input. No condition but that the listed table of package math/bits reads as the text lays it, which the card ties.
-/
namespace Go.Proofs.YtkjgbhpnlgcinaaGreatDoor
open Go.ChangeShapes Go.WideShapes Go.ChangeAt Go.RowKit Go.Cib
open Go.ChangeMaps (open_string shut_string)

set_option maxRecDepth 100000 in
set_option maxHeartbeats 1000000 in
theorem pageAll_lifted (os : Os) (started : os.Started) (H : Type) (enc : TypeId × Value → H) :
    ReturnsInHanded {} Tryz.checked os 3 .any (fun w args => (Rows.pageAllSpec.pre enc Tryz.prog Tryz.f3 [] false w args ∧ laidMetH Tryz.prog [("math/bits.deBruijn64tab", Rows.laid_math_bits_deBruijn64tab)] w) ∧ sizedMet enc Tryz.prog Tryz.f3 (OpenSpec.ofChange Rows.pageAllSpec) false w args) (Rows.pageAllSpec.post enc Tryz.prog Tryz.f3 false true false false) := by
  refine returnsInHanded_of_change_and (C := Tryz.checked) (X := fun w _ => laidMetH Tryz.prog [("math/bits.deBruijn64tab", Rows.laid_math_bits_deBruijn64tab)] w) (fun _ _ _ hh h => h.of_heap hh) own started (by kernel_rfl) Tryz.func3
    (ChangeSpec.witness_at (enc := enc) (C := Tryz.checked) (os := os) (X := fun w _ => laidMetH Tryz.prog [("math/bits.deBruijn64tab", Rows.laid_math_bits_deBruijn64tab)] w) false (doorWorld os) #[.int .i64 0, .slice none 0 0] 8 rfl (by kernel_rfl) (by kernel_rfl) (by kernel_rfl) (by kernel_rfl) (by kernel_rfl) (door_met os _)) ?_
  intro W base args ds gs before hval0 hW _ _ hL _
  have tab := tab_of_laid hL
  have hval : ∀ (j : Nat) t v, Tryz.f3.params[j]? = some t → args[j]? = some v → Value.okWide Tryz.prog W .any base t v := hval0
  have hW' := hW
  obtain ⟨p, q, hA0, hV, rfl, _, _⟩ := hW
  have hA : DataW.TrodAll enc Tryz.prog W 0 (fun _ => true) true Tryz.f3.params.toList args.toList ds p := hA0
  rw [Tryz.params3] at hA hval
  obtain ⟨v0, vs0, d0, ds0, p0, q0, hargs, rfl, rfl, h0, r0⟩ := trodAll_cons hA
  obtain ⟨v1, vs1, d1, ds1, p1, q1, rfl, rfl, rfl, h1, r1⟩ := trodAll_cons r0
  obtain ⟨rfl, rfl, rfl⟩ := trodAll_nil r1
  obtain rfl : args = #[v0, v1] := by cases args; simp_all
  obtain ⟨rfl, rfl⟩ := trodVars_none hV
  obtain ⟨a0, rfl, rfl, rfl, w0⟩ := open_int Tryz.underlying3 (hval 0 3 v0 rfl rfl) h0
  have b0 := w0
  simp only [Lit.wf, Bool.and_eq_true, decide_eq_true_eq] at b0
  obtain ⟨a1, l1, c1, rfl⟩ := okWide_slice Tryz.underlying22 (hval 1 22 v1 rfl rfl)
  have k1 := h1
  have lt1 : ∀ x ∈ p1, x.block < W.heap.size := by obtain ⟨m, hm⟩ := k1; exact DataW.trod_lt m _ _ _ hm
  obtain ⟨fuel1, hf1⟩ := h1
  obtain ⟨x1, os1, y1, e1, g1, s1, z1⟩ := ints_of_trod Tryz.underlying22 Tryz.underlying3 cellsInt hf1
  cases e1
  clear hA0 hval0
  refine (pageAll_any W tab a0 b0.1 b0.2 a1 c1 g1 (by unfold maxLen at s1; omega) z1).mono fun e W' ⟨he, ht⟩ => ?_
  subst he
  have bel : Below W.heap.size W W' := ht.below (Nat.le_refl _) (by simp)
  exact ⟨_, rfl, _, _, _, [], _, [], hW', trodAll_mk1 (shut_bool Tryz.underlying4 _), (trodAll_cons_mk (shut_int Tryz.underlying3 w0) (trodAll_cons_mk (Below.trod laidOut (by kernel_rfl) (of_decide_eq_true (by kernel_rfl)) k1 bel lt1) trodAll_mk0)), rfl, bel.frame _, fun h => by cases h⟩

theorem pageAll_row_holds : Rows.PageAllSaid :=
  OpenClaim.holds_of_wide 3 Tryz.f3 rfl rfl rfl rfl rfl rfl rfl ⟨rfl, rfl, rfl, rfl, rfl⟩ rfl rfl rfl rfl rfl (by kernel_rfl) Tryz.func3 (by kernel_rfl)
    (of_decide_eq_true (by kernel_rfl)) (by unfold Func.isWrapper; first | (rw [if_pos (by decide +kernel)]; kernel_rfl) | (rw [if_neg (by decide +kernel)]; exact ⟨rfl, rfl⟩))
    (fun os started H enc _ => pageAll_lifted os started H enc)
theorem pageAll_holds : Rows.PageAllCardSaid :=
  Claim7.holds_tied_plain_at .later [] [.data] true (true, _) false
    pageAll_row_holds (fun _ h => by cases h) (by kernel_rfl) (fun _ h => by cases h) pageAll_row_tie rfl ⟨rfl, rfl⟩ (by kernel_rfl) rfl
    (fun f fn hf hfn => by
      obtain rfl : f = 3 := Option.some.inj ((show Tryz.prog.funcNamed "ciborium/ciboriumlaw09.PageAll" = some 3 by kernel_rfl).symm.trans hf) |>.symm
      obtain rfl : fn = Tryz.f3 := (Option.some.inj (Tryz.func3.symm.trans hfn)).symm
      exact ⟨by kernel_rfl, fun j t ht => by
        rw [Tryz.params3] at ht
        rcases j with _ | j
        · obtain rfl : t = 3 := by simpa using ht.symm
          exact (show Tryz.prog.wantsStandIn 3 = false by kernel_rfl)
        rcases j with _ | j
        · obtain rfl : t = 22 := by simpa using ht.symm
          exact (show Tryz.prog.wantsStandIn 22 = false by kernel_rfl)
        · simp at ht⟩)
    (by kernel_rfl)
#print axioms pageAll_holds
end Go.Proofs.YtkjgbhpnlgcinaaGreatDoor
