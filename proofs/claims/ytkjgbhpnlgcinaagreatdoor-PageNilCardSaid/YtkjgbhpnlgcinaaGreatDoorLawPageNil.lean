/-
  Where there are no pages all is refused: the walk of PageNil.
-/
import Derived.Test.YtkjgbhpnlgcinaaGreatDoorMP6
import Derived.Test.YtkjgbhpnlgcinaaGreatDoorMP6
import Derived.ProofKit
import Derived.OpenShut
import Derived.ShutString
import Derived.ChangeOld
import Derived.Deep.Slices
import Derived.Deep.Strs
import Derived.Test.YtkjgbhpnlgcinaaGreatDoorRows
import Derived.Lib.LaidTab
import Derived.LaidHandle
import Derived.Handed
import Derived.SevenTiedAt
import Derived.Test.YtkjgbhpnlgcinaaGreatDoorTie
import Derived.Test.YtkjgbhpnlgcinaaGreatDoorCards
namespace Go.Proofs.YtkjgbhpnlgcinaaGreatDoor
open Go.RowKit Go.Cib
set_option maxRecDepth 20000 in
set_option maxHeartbeats 2000000 in
theorem pageNil_any (w : World) (tab : Tab w) (dd ii nn : Int) (tx kk : Value) :
    Calls Tryz.prog 5 #[.agg #[.int .i64 dd, .int .i64 ii, .int .i64 nn, tx, kk]] w fun e w' => e = .returned (.bool true) ∧ Tch [] w w' := by
  have t0 : Tch [] w (w.alloc (.cells #[.int .i64 dd, .int .i64 ii, .int .i64 nn, tx, kk] 46)) := (Tch.refl _ _).alloc _
  have b0 : (w.alloc (.cells #[.int .i64 dd, .int .i64 ii, .int .i64 nn, tx, kk] 46)).heap[w.heap.size]? = some (.cells #[.int .i64 dd, .int .i64 ii, .int .i64 nn, tx, kk] 46) := heap_alloc_new _ _
  have T0 := Lib.hid t0
  have B0 := Lib.hid b0
  have TAB := Lib.hid (tab.touch t0 (by simp))
  clear t0 b0 tab
  go_enter Tryz.func5, Tryz.ntmps5
  go_upto_region 1 with fail
  generalize w.alloc (.cells #[.int .i64 dd, .int .i64 ii, .int .i64 nn, tx, kk] 46) = w1 at *
  generalize w.heap.size = B at *
  have c1 : w1.cell? ⟨B, 1, none⟩ = some (.int .i64 ii) := by rw [cell_of_row w1 B 1 _ _ _ B0.out]; rfl
  go_wp2_with (go_at_call 22; refine (nopen_any _).mono ?_; rintro e w' ⟨rfl, rfl⟩)
  refine (npget_any _ ii).mono ?_
  rintro e w2 ⟨rfl, t2⟩
  have t3 : Tch [] w2 (w2.alloc (.cells (secA (Arr.zero : Page)) 54)) := (Tch.refl _ _).alloc _
  have b3 : (w2.alloc (.cells (secA (Arr.zero : Page)) 54)).heap[w2.heap.size]? = some (.cells (secA (Arr.zero : Page)) 54) := heap_alloc_new _ _
  have T3 := Lib.hid ((T0.out.trans t2).trans t3)
  have B3 := Lib.hid (t3.heap (t2.heap B0.out (by simp)) (by simp))
  have TAB3 := Lib.hid ((TAB.out.touch t2 (by simp)).touch t3 (by simp))
  have X3 := Lib.hid b3
  clear t2 t3 b3 T0 B0 TAB c1
  go_upto_region 4 with (first | ((with_reducible refine wc_alloc_arr pageT ?_); go_frame; (try simp only [World.size_alloc])) | ((with_reducible apply wc_store_new pageT); exact rfl; exact rfl; go_frame))
  generalize w2.alloc (.cells (secA (Arr.zero : Page)) 54) = w3 at *
  generalize w2.heap.size = X at *
  clear w2
  have d1 : w3.cell? ⟨B, 1, none⟩ = some (.int .i64 ii) := by rw [cell_of_row w3 B 1 _ _ _ B3.out]; rfl
  have d2 : w3.cell? ⟨B, 2, none⟩ = some (.int .i64 nn) := by rw [cell_of_row w3 B 2 _ _ _ B3.out]; rfl
  go_upto_region 8 with (first | (go_at_call 12; refine (nptake_any _).mono ?_; rintro e w' ⟨rfl, rfl⟩) | (go_at_call 24; refine (nproot_any _ _).mono ?_; rintro e w' ⟨rfl, rfl⟩) | (go_at_call 25; refine (npchanged_any _).mono ?_; rintro e w' ⟨rfl, rfl⟩) | (go_at_call 11; refine (npfirst_any _).mono ?_; rintro e w' ⟨rfl, rfl⟩) | (go_at_call 16; refine (nppages_any _).mono ?_; rintro e w' ⟨rfl, rfl⟩) | (go_at_call 10; refine (npfree_any _).mono ?_; rintro e w' ⟨rfl, rfl⟩) | (go_at_call 26; refine (nptaken_any _ _).mono ?_; rintro e w' ⟨rfl, rfl⟩) | ((with_reducible apply wc_load_var pageT X3.out); exact rfl; go_frame) | ((with_reducible apply wc_build_arr pageT); exact rfl; go_frame) | ((with_reducible refine wc_eql_arr pageT (s := Arr.zero) (t := Arr.zero) ?_ ?_ ?_); exact rfl; exact rfl; rw [decide_eq_true rfl]; go_frame))
  go_wp2_with fail
  refine (nmake_any _).mono ?_
  rintro e w' ⟨rfl, rfl⟩
  go_wp2_with fail
  simp only [List.append_eq, List.nil_append]
  with_reducible apply wcg_load_var pageT X3.out
  · exact rfl
  · exact rfl
  go_frame
  go_wp2_with (first | ((with_reducible apply wcg_load_var pageT X3.out); exact rfl; exact rfl; go_frame) | (go_at_call 28; refine (npput_any _ _ _).mono ?_; rintro e w4 ⟨rfl, t4⟩; have T4 := Lib.hid (T3.out.trans t4); have TAB4 := Lib.hid (TAB3.out.touch t4 (by simp)); have e1 := cell_old t4 d1; have e2 := cell_old t4 d2; clear t4 d1 d2 T3 TAB3 X3) | (go_at_call 13; refine (npgive_any _ _).mono ?_; rintro e w' ⟨rfl, rfl⟩) | (go_at_call 29; refine (npsetRoot_any _ _ _).mono ?_; rintro e w' ⟨rfl, rfl⟩) | (go_at_call 18; refine (npcommit_any _).mono ?_; rintro e w' ⟨rfl, rfl⟩) | (go_at_call 19; refine (nprollback_any _).mono ?_; rintro e w' ⟨rfl, rfl⟩) | (go_at_call 14; refine (works9_any _ TAB4.out).mono ?_; rintro e w5 ⟨rfl, t5⟩; have T5 := Lib.hid (T4.out.trans t5); clear t5))
  go_ret
  exact ⟨rfl, T5.out⟩
end Go.Proofs.YtkjgbhpnlgcinaaGreatDoor
/-
  What the arguments of the statements of layer 8 read as is what their proofs ask of memory.
-/
namespace Go.Proofs.YtkjgbhpnlgcinaaGreatDoor
open Go.ChangeShapes Go.WideShapes Go.ChangeAt Go.RowKit Go.Cib

theorem own : ownKnob Tryz.prog.godebug = none := by kernel_rfl
theorem laidOut : laidOutB Tryz.prog = true := by kernel_rfl

section
variable {H : Type} {enc : TypeId × Value → H} {P : Program} {w : World}
theorem cells_get {base : Nat} {a : Addr} {n : Nat} {cs : List Value} (h : w.cells? base a n = some cs) : cs.length = n ∧ ∀ j v, cs[j]? = some v → w.cell? (a.add j) = some v := by
  obtain ⟨_, h2, h3⟩ := World.cells?_some h
  exact ⟨h2, fun j v hj => by rw [h3 j (by have := (List.getElem?_eq_some_iff.1 hj).1; omega), hj]⟩
theorem plain_addr {a : Addr} {v : Value} (h : w.cell? a = some v) : ∃ b o, a = ⟨b, o, none⟩ := by
  obtain ⟨b, o, s⟩ := a
  cases s with
  | none => exact ⟨b, o, rfl⟩
  | some x =>
    exfalso
    unfold World.cell? at h
    simp only [Option.isSome_some, if_true] at h
    split at h <;> simp at h
/-- A slice of integers. -/
theorem ints_of_trod {t e : TypeId} (ht : P.underlying t = some (.slice e)) (he : P.underlying e = some (.int .i64)) (hc : P.cellsOf e = 1) {fuel : Nat} {v : Value} {x : DataW H × List MemPlace} (h : DataW.trod enc P w 0 (fun _ => true) true fuel t [v] = some x) :
    ∃ (a : Option Addr) (l : List Int) (cap : Nat), v = .slice a l.length cap ∧ IntsAt w a l ∧ l.length ≤ maxLen ∧ (∀ n ∈ l, -9223372036854775808 ≤ n ∧ n ≤ 9223372036854775807) := by
  rcases open_ints ht he hc h with ⟨hcs, _⟩ | ⟨a, l, c, zs, hcs, _, hl, hm, hz, _, hcell, hwz⟩
  · simp at hcs
    exact ⟨none, [], 0, hcs, by intro j x hj; simp at hj, by simp, by simp⟩
  · simp at hcs
    have hlen : (zs.take l).length = l := by rw [List.length_take]; simp at hz; omega
    refine ⟨some a, zs.take l, c, by rw [hlen]; exact hcs, fun j x hj => ?_, by rw [hlen]; omega, fun n hn => ?_⟩
    · have hjl := (List.getElem?_eq_some_iff.1 hj).1
      rw [hlen] at hjl
      have hzj : zs[j]? = some x := by rw [List.getElem?_take, if_pos hjl] at hj; exact hj
      have hjz := (List.getElem?_eq_some_iff.1 hzj).1
      have hcj := hcell j hjz
      rw [List.getD_eq_getElem?_getD, hzj] at hcj
      obtain ⟨b, o, hbo⟩ := plain_addr hcj
      obtain ⟨b', o', s'⟩ := a
      by_cases hj0 : j = 0
      · subst hj0
        simp only [Addr.add, if_true] at hbo hcj
        rw [hbo] at hcj
        exact ⟨b, o, congrArg some hbo, by simpa using hcj⟩
      · have h0 := hcell 0 (by omega)
        obtain ⟨b0, o0, h00⟩ := plain_addr h0
        simp only [Addr.add, if_true] at h00
        cases h00
        rw [add_mk] at hcj
        exact ⟨_, _, rfl, hcj⟩
    · have := hwz n (List.mem_of_mem_take hn)
      simp only [Lit.wf, Bool.and_eq_true, decide_eq_true_eq] at this
      exact this
/-- A slice of texts. -/
theorem texts_of_trod {t e : TypeId} (ht : P.underlying t = some (.slice e)) (he : P.underlying e = some .string) (hc : P.cellsOf e = 1) {fuel : Nat} {v : Value} {x : DataW H × List MemPlace} (h : DataW.trod enc P w 0 (fun _ => true) true fuel t [v] = some x) :
    ∃ (a : Option Addr) (l : List ByteArray) (cap : Nat), v = .slice a l.length cap ∧ TextsAt w a l ∧ l.length ≤ maxLen ∧ ∀ s ∈ l, s.size ≤ maxLen := by
  rcases Deep.open_strs ht he hc h with ⟨hcs, _⟩ | ⟨a, len, cap, m, Sx, hcs, _, hl, hm, hmm, _, hel⟩
  · simp at hcs
    exact ⟨none, [], 0, hcs, by intro j x hj; simp at hj, by simp, by simp⟩
  · simp at hcs hmm
    refine ⟨some a, (List.range len).map Sx, cap, by simpa using hcs, fun j s hj => ?_, by simp; omega, fun s hs => ?_⟩
    · have hjl := (List.getElem?_eq_some_iff.1 hj).1
      simp only [List.length_map, List.length_range] at hjl
      have ho : Sx j = s := by simpa [hjl] using hj
      subst ho
      have hcj := (hel j (by omega)).1
      obtain ⟨b, o, hbo⟩ := plain_addr hcj
      obtain ⟨b', o', s'⟩ := a
      by_cases hj0 : j = 0
      · subst hj0
        simp only [Addr.add, if_true] at hbo hcj
        rw [hbo] at hcj
        exact ⟨b, o, congrArg some hbo, by simpa using hcj⟩
      · have h0 := (hel 0 (by omega)).1
        obtain ⟨b0, o0, h00⟩ := plain_addr h0
        simp only [Addr.add, if_true] at h00
        cases h00
        rw [add_mk] at hcj
        exact ⟨_, _, rfl, hcj⟩
    · obtain ⟨j, hj, rfl⟩ := List.mem_map.1 hs
      exact (hel j (by have := List.mem_range.1 hj; omega)).2
end

section
variable {H : Type} {enc : TypeId × Value → H} {w : World}
theorem cellsInt : Tryz.prog.cellsOf 3 = 1 := by kernel_rfl
theorem cellsStr : Tryz.prog.cellsOf 9 = 1 := by kernel_rfl
theorem cellsInts : Tryz.prog.cellsOf 22 = 1 := by kernel_rfl
end
end Go.Proofs.YtkjgbhpnlgcinaaGreatDoor
/-
  What the arguments of the statements of layer 9 read as is what their proofs ask of memory.
-/
namespace Go.Proofs.YtkjgbhpnlgcinaaGreatDoor
open Go.ChangeShapes Go.WideShapes Go.ChangeAt Go.RowKit Go.Cib
structure Op9V where
  what : Int
  i : Int
  n : Int
  text : ByteArray
  ka : Option Addr
  kcap : Nat
  keep : List Int
abbrev Op9V.val (o : Op9V) : Array Value := #[.int .i64 o.what, .int .i64 o.i, .int .i64 o.n, .string o.text, .slice o.ka o.keep.length o.kcap]
abbrev Op9V.cells (o : Op9V) : Obj := .cells o.val 46
/-- What holds of an op, wherever it lies. -/
structure Op9Ok (w : World) (o : Op9V) : Prop where
  keep : IntsAt w o.ka o.keep
  len : o.keep.length ≤ maxLen
  txt : o.text.size ≤ maxLen
  ilo : -9223372036854775808 ≤ o.i
  ihi : o.i ≤ 9223372036854775807
  nlo : -9223372036854775808 ≤ o.n
  nhi : o.n ≤ 9223372036854775807
def Op9At (w : World) (b off : Nat) (o : Op9V) : Prop := (∀ j v, o.val[j]? = some v → w.cell? ⟨b, off + j, none⟩ = some v) ∧ Op9Ok w o
def Ops9At (w : World) (a : Option Addr) (os : List Op9V) : Prop :=
  ∀ (j : Nat) (o : Op9V), os[j]? = some o → ∃ b off, a = some ⟨b, off, none⟩ ∧ Op9At w b (off + j * 5) o
theorem Op9Ok.later {w w' : World} {o : Op9V} (h : Op9Ok w o) (ht : Tch [] w w') : Op9Ok w' o := ⟨h.keep.touch ht (by simp), h.len, h.txt, h.ilo, h.ihi, h.nlo, h.nhi⟩
theorem Op9At.later {w w' : World} {b off : Nat} {o : Op9V} (h : Op9At w b off o) (ht : Tch [] w w') : Op9At w' b off o := ⟨fun j v hj => cell_old ht (h.1 j v hj), h.2.later ht⟩
theorem Ops9At.later {w w' : World} {a : Option Addr} {os : List Op9V} (h : Ops9At w a os) (ht : Tch [] w w') : Ops9At w' a os := fun j o hj => by
  obtain ⟨b, off, h1, h2⟩ := h j o hj
  exact ⟨b, off, h1, h2.later ht⟩
theorem box9 {w : World} {X : Nat} {o : Op9V} (h : w.heap[X]? = some o.cells) : ∀ j v, o.val[j]? = some v → w.cell? ⟨X, j, none⟩ = some v := fun j v hj => by
  rw [cell_of_row w X j _ _ _ h]; exact hj
section
variable {H : Type} {enc : TypeId × Value → H} {w : World}
theorem cellsPlace9 : Tryz.prog.cellsOf 28 = 2 := by kernel_rfl
theorem cellsOp9 : Tryz.prog.cellsOf 46 = 5 := by kernel_rfl
set_option maxRecDepth 20000 in
theorem place9_of_trod {fuel : Nat} {cs : List Value} {x : DataW H × List MemPlace} (h : DataW.trod enc Tryz.prog w 0 (fun _ => true) true fuel 28 cs = some x) :
    ∃ (s l : Int), cs = [.int .i64 s, .int .i64 l] ∧ (-9223372036854775808 ≤ s ∧ s ≤ 9223372036854775807) ∧ -9223372036854775808 ≤ l ∧ l ≤ 9223372036854775807 := by
  obtain ⟨xs, n, _, _, hl, hlen, hf⟩ := DataW.trod_struct Tryz.underlying28 h
  rw [cellsPlace9] at hl
  match xs, hlen with
  | [y0, y1], _ =>
    match cs, hl with
    | [v0, v1], _ =>
      have g0 : DataW.trod enc Tryz.prog w 0 (fun _ => true) true n 3 [v0] = some y0 := by simpa [cellsInt] using hf 0 _ rfl
      have g1 : DataW.trod enc Tryz.prog w 0 (fun _ => true) true n 3 [v1] = some y1 := by simpa [cellsInt] using hf 1 _ rfl
      obtain ⟨a0, e0, _, w0⟩ := DataW.trod_int Tryz.underlying3 g0
      obtain ⟨a1, e1, _, w1⟩ := DataW.trod_int Tryz.underlying3 g1
      simp only [List.cons.injEq, and_true] at e0 e1
      subst e0 e1
      simp only [Lit.wf, Bool.and_eq_true, decide_eq_true_eq] at w0 w1
      exact ⟨a0, a1, rfl, w0, w1⟩
set_option maxRecDepth 20000 in
/-- One op, with its bounds. -/
theorem op9_of_trod {fuel : Nat} {cs : List Value} {x : DataW H × List MemPlace} (h : DataW.trod enc Tryz.prog w 0 (fun _ => true) true fuel 46 cs = some x) :
    ∃ o : Op9V, cs = o.val.toList ∧ Op9Ok w o := by
  obtain ⟨xs, n, _, _, hl, hlen, hf⟩ := DataW.trod_struct Tryz.underlying46 h
  rw [cellsOp9] at hl
  match xs, hlen with
  | [y0, y1, y2, y3, y4], _ =>
    match cs, hl with
    | [v0, v1, v2, v3, v4], _ =>
      have g0 : DataW.trod enc Tryz.prog w 0 (fun _ => true) true n 3 [v0] = some y0 := by simpa [cellsInt] using hf 0 _ rfl
      have g1 : DataW.trod enc Tryz.prog w 0 (fun _ => true) true n 3 [v1] = some y1 := by simpa [cellsInt] using hf 1 _ rfl
      have g2 : DataW.trod enc Tryz.prog w 0 (fun _ => true) true n 3 [v2] = some y2 := by simpa [cellsInt] using hf 2 _ rfl
      have g3 : DataW.trod enc Tryz.prog w 0 (fun _ => true) true n 9 [v3] = some y3 := by simpa [cellsStr] using hf 3 _ rfl
      have g4 : DataW.trod enc Tryz.prog w 0 (fun _ => true) true n 22 [v4] = some y4 := by simpa [cellsInts] using hf 4 _ rfl
      obtain ⟨a0, e0, _, _⟩ := DataW.trod_int Tryz.underlying3 g0
      obtain ⟨a1, e1, _, w1⟩ := DataW.trod_int Tryz.underlying3 g1
      obtain ⟨a2, e2, _, w2⟩ := DataW.trod_int Tryz.underlying3 g2
      obtain ⟨a3, e3, _, w3⟩ := DataW.trod_string Tryz.underlying9 g3
      obtain ⟨a4, l4, c4, e4, h4, h5, _⟩ := ints_of_trod Tryz.underlying22 Tryz.underlying3 cellsInt g4
      simp only [List.cons.injEq, and_true] at e0 e1 e2 e3
      subst e0 e1 e2 e3 e4
      simp only [Lit.wf, Bool.and_eq_true, decide_eq_true_eq] at w1 w2
      exact ⟨⟨a0, a1, a2, a3, a4, c4, l4⟩, rfl, ⟨h4, h5, by first | exact w3 | simpa [Lit.wf] using w3, w1.1, w1.2, w2.1, w2.2⟩⟩
/-- A script. -/
theorem ops9_of_trod {fuel : Nat} {v : Value} {x : DataW H × List MemPlace} (h : DataW.trod enc Tryz.prog w 0 (fun _ => true) true fuel 37 [v] = some x) :
    ∃ (a : Option Addr) (os : List Op9V) (cap : Nat), v = .slice a os.length cap ∧ Ops9At w a os ∧ os.length ≤ maxLen ∧ os.length ≤ cap := by
  rcases Deep.open_slice Tryz.underlying37 h with ⟨hcs, _⟩ | ⟨a, len, cap, m, n, D, Pl, hcs, _, hl, hm, hmm, _, hel⟩
  · simp at hcs
    exact ⟨none, [], 0, hcs, by intro j x hj; simp at hj, by simp, Nat.le_refl _⟩
  · simp at hcs hmm
    rw [cellsOp9] at hel
    have hall : ∀ i, i < len → ∃ o : Op9V, w.cells? 0 (a.add (i * 5)) 5 = some o.val.toList ∧ Op9Ok w o := by
      intro i hi
      obtain ⟨cs', h1, h2⟩ := hel i (by omega)
      obtain ⟨o, rfl, h3⟩ := op9_of_trod h2
      exact ⟨o, h1, h3⟩
    haveI : Inhabited Op9V := ⟨⟨0, 0, 0, ByteArray.empty, none, 0, []⟩⟩
    obtain ⟨f, hf⟩ := Deep.choose_lt hall
    refine ⟨some a, (List.range len).map f, cap, by simpa using hcs, fun j o hj => ?_, by simp; omega, by simp; omega⟩
    have hjl := (List.getElem?_eq_some_iff.1 hj).1
    simp only [List.length_map, List.length_range] at hjl
    have ho : f j = o := by simpa [hjl] using hj
    obtain ⟨h1, h3⟩ := hf j hjl
    rw [ho] at h1 h3
    obtain ⟨_, hc⟩ := cells_get h1
    obtain ⟨b, off, hba⟩ : ∃ b off, a = ⟨b, off, none⟩ := by
      have h0 := hc 0 (.int .i64 o.what) rfl
      obtain ⟨b, o', hbo⟩ := plain_addr h0
      obtain ⟨b', o'', s'⟩ := a
      by_cases hj0 : j = 0
      · subst hj0
        simp [Addr.add] at hbo
        exact ⟨b', o'', by simp [hbo.2.2]⟩
      · obtain ⟨h1', _⟩ := hf 0 (by omega)
        obtain ⟨_, hc'⟩ := cells_get h1'
        have h00 := hc' 0 (.int .i64 (f 0).what) rfl
        obtain ⟨b2, o2, hbo2⟩ := plain_addr h00
        simp [Addr.add] at hbo2
        exact ⟨b', o'', by simp [hbo2.2.2]⟩
    subst hba
    refine ⟨b, off, rfl, fun k v hk => ?_, h3⟩
    have := hc k v (by rw [Array.getElem?_toList]; exact hk)
    rw [add_mk, add_mk] at this
    exact this
end
end Go.Proofs.YtkjgbhpnlgcinaaGreatDoor
/-
  The table of package math/bits that the rows of layer 9 list: from the rows' condition to what the walks ask; a world that meets it.
-/
namespace Go.Proofs.YtkjgbhpnlgcinaaGreatDoor
open Go.RowKit Go.Cib
theorem door_gT : Tryz.prog.globalNamed "math/bits.deBruijn64tab" = some 0 := by kernel_rfl
theorem door_gType : (Tryz.prog.globals[0]?).map (·.type) = some 150 := by kernel_rfl
theorem door_tab : (Rows.laid_math_bits_deBruijn64tab : DataW Unit) = Lib.tabData .u8 (deBruijn.map fun (x : Nat) => (x : Int)) := by
  unfold Rows.laid_math_bits_deBruijn64tab Lib.tabData deBruijn
  rfl
theorem tab_of_laid {W : World} (h : laidMetH Tryz.prog [("math/bits.deBruijn64tab", Rows.laid_math_bits_deBruijn64tab)] W) : Tab W := by
  rw [door_tab] at h
  have hm : laidMet Tryz.prog [("math/bits.deBruijn64tab", Lib.tabData .u8 (deBruijn.map fun (x : Nat) => (x : Int)))] W := h
  have ht := Lib.tabIs_of_head door_gT door_gType Tryz.underlying150 Tryz.underlying5 (by kernel_rfl) (by kernel_rfl) hm
  intro i x hi
  have hl := (List.getElem?_eq_some_iff.1 hi).1
  have := ht.cell door_gT i (by simpa using hl)
  rw [this]
  congr 2
  rw [List.getD_eq_getElem?_getD, List.getElem?_map, hi]
  rfl
/-- The settled world, the table laid. -/
noncomputable def doorWorld (os : Os) : World :=
  { World.holding Tryz.prog os ⟨#[], #[], []⟩ with heap := (World.holding Tryz.prog os ⟨#[], #[], []⟩).heap.modify 0 fun
      | .cells _ t frozen => .cells (deBruijn.map fun (z : Nat) => Value.int .u8 (z : Int)).toArray t frozen
      | o => o }
theorem door_met (os : Os) (args : Array Value) : laidMetH Tryz.prog [("math/bits.deBruijn64tab", Rows.laid_math_bits_deBruijn64tab)] ((doorWorld os).forCall (fun _ _ => 0) ⟨#[], args, []⟩).memory :=
  laidMetH_of_parts (laidMet_of_run' 8 (by kernel_rfl) (by kernel_rfl)) (by kernel_rfl)
end Go.Proofs.YtkjgbhpnlgcinaaGreatDoor
/-
  Where there are no pages all is refused, and nothing told: PageNil answers true at every input. No condition but that the listed table of package math/bits reads as the text lays it, which the card ties.
-/
namespace Go.Proofs.YtkjgbhpnlgcinaaGreatDoor
open Go.ChangeShapes Go.WideShapes Go.ChangeAt Go.RowKit Go.Cib
open Go.ChangeMaps (open_string shut_string)

set_option maxRecDepth 100000 in
set_option maxHeartbeats 1000000 in
theorem pageNil_lifted (os : Os) (started : os.Started) (H : Type) (enc : TypeId × Value → H) :
    ReturnsInHanded {} Tryz.checked os 5 .any (fun w args => (Rows.pageNilSpec.pre enc Tryz.prog Tryz.f5 [] false w args ∧ laidMetH Tryz.prog [("math/bits.deBruijn64tab", Rows.laid_math_bits_deBruijn64tab)] w) ∧ sizedMet enc Tryz.prog Tryz.f5 (OpenSpec.ofChange Rows.pageNilSpec) false w args) (Rows.pageNilSpec.post enc Tryz.prog Tryz.f5 false true false false) := by
  refine returnsInHanded_of_change_and (C := Tryz.checked) (X := fun w _ => laidMetH Tryz.prog [("math/bits.deBruijn64tab", Rows.laid_math_bits_deBruijn64tab)] w) (fun _ _ _ hh h => h.of_heap hh) own started (by kernel_rfl) Tryz.func5
    (ChangeSpec.witness_at (enc := enc) (C := Tryz.checked) (os := os) (X := fun w _ => laidMetH Tryz.prog [("math/bits.deBruijn64tab", Rows.laid_math_bits_deBruijn64tab)] w) false (doorWorld os) #[.agg #[.int .i64 0, .int .i64 0, .int .i64 0, .string ByteArray.empty, .slice none 0 0]] 8 rfl (by kernel_rfl) (by kernel_rfl) (by kernel_rfl) (by kernel_rfl) (by kernel_rfl) (door_met os _)) ?_
  intro W base args ds gs before hval0 hW _ _ hL _
  have tab := tab_of_laid hL
  have hval : ∀ (j : Nat) t v, Tryz.f5.params[j]? = some t → args[j]? = some v → Value.okWide Tryz.prog W .any base t v := hval0
  have hW' := hW
  obtain ⟨p, q, hA0, hV, rfl, _, _⟩ := hW
  have hA : DataW.TrodAll enc Tryz.prog W 0 (fun _ => true) true Tryz.f5.params.toList args.toList ds p := hA0
  rw [Tryz.params5] at hA hval
  obtain ⟨v0, vs0, d0, ds0, p0, q0, hargs, rfl, rfl, h0, r0⟩ := trodAll_cons hA
  obtain ⟨rfl, rfl, rfl⟩ := trodAll_nil r0
  obtain rfl : args = #[v0] := by cases args; simp_all
  obtain ⟨rfl, rfl⟩ := trodVars_none hV
  obtain ⟨cs0, rfl, _⟩ := okWide_struct Tryz.underlying46 (hval 0 46 v0 rfl rfl)
  have k0 := h0
  have lt0 : ∀ x ∈ p0, x.block < W.heap.size := by obtain ⟨m, hm⟩ := k0; exact DataW.trod_lt m _ _ _ hm
  obtain ⟨fuel0, hf0⟩ := h0
  obtain ⟨o0, e0, _⟩ := op9_of_trod hf0
  obtain rfl : cs0 = o0.val := by cases cs0; simp [Value.cells] at e0; simp [e0]
  clear hA0 hval0
  refine (pageNil_any W tab o0.what o0.i o0.n (.string o0.text) (.slice o0.ka o0.keep.length o0.kcap)).mono fun e W' ⟨he, ht⟩ => ?_
  subst he
  have bel : Below W.heap.size W W' := ht.below (Nat.le_refl _) (by simp)
  exact ⟨_, rfl, _, _, _, [], _, [], hW', trodAll_mk1 (shut_bool Tryz.underlying4 _), (trodAll_cons_mk (Below.trod laidOut (by kernel_rfl) (of_decide_eq_true (by kernel_rfl)) k0 bel lt0) trodAll_mk0), rfl, bel.frame _, fun h => by cases h⟩

theorem pageNil_row_holds : Rows.PageNilSaid :=
  OpenClaim.holds_of_wide 5 Tryz.f5 rfl rfl rfl rfl rfl rfl rfl ⟨rfl, rfl, rfl, rfl, rfl⟩ rfl rfl rfl rfl rfl (by kernel_rfl) Tryz.func5 (by kernel_rfl)
    (of_decide_eq_true (by kernel_rfl)) (by unfold Func.isWrapper; first | (rw [if_pos (by decide +kernel)]; kernel_rfl) | (rw [if_neg (by decide +kernel)]; exact ⟨rfl, rfl⟩))
    (fun os started H enc _ => pageNil_lifted os started H enc)
theorem pageNil_holds : Rows.PageNilCardSaid :=
  Claim7.holds_tied_plain_at .later [] [.data] true (true, _) false
    pageNil_row_holds (fun _ h => by cases h) (by kernel_rfl) (fun _ h => by cases h) pageNil_row_tie rfl ⟨rfl, rfl⟩ (by kernel_rfl) rfl
    (fun f fn hf hfn => by
      obtain rfl : f = 5 := Option.some.inj ((show Tryz.prog.funcNamed "ciborium/ciboriumlaw09.PageNil" = some 5 by kernel_rfl).symm.trans hf) |>.symm
      obtain rfl : fn = Tryz.f5 := (Option.some.inj (Tryz.func5.symm.trans hfn)).symm
      exact ⟨by kernel_rfl, fun j t ht => by
        rw [Tryz.params5] at ht
        rcases j with _ | j
        · obtain rfl : t = 46 := by simpa using ht.symm
          exact (show Tryz.prog.wantsStandIn 46 = false by kernel_rfl)
        · simp at ht⟩)
    (by kernel_rfl)
#print axioms pageNil_holds
end Go.Proofs.YtkjgbhpnlgcinaaGreatDoor
