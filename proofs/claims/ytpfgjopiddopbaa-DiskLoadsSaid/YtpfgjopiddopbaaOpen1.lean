/-
  What the arguments of the statements of layer 7 read as is what their proofs ask of memory.
-/
import Derived.Test.YtpfgjopiddopbaaLaw1
import Derived.ProofKit
import Derived.OpenShut
import Derived.ShutString
import Derived.ChangeOld
import Derived.Deep.Slices
namespace Go.Proofs.Ytpfgjopiddopbaa
open Go.ChangeShapes Go.WideShapes Go.ChangeAt Go.RowKit Go.Cib

theorem own : ownKnob Try.prog.godebug = none := by kernel_rfl
theorem laidOut : laidOutB Try.prog = true := by kernel_rfl

section
variable {H : Type} {enc : TypeId × Value → H} {P : Program} {w : World}
theorem cells_get {base : Nat} {a : Addr} {n : Nat} {cs : List Value} (h : w.cells? base a n = some cs) : cs.length = n ∧ ∀ j v, cs[j]? = some v → w.cell? (a.add j) = some v := by
  obtain ⟨_, h2, h3⟩ := World.cells?_some h
  exact ⟨h2, fun j v hj => by rw [h3 j (by have := (List.getElem?_eq_some_iff.1 hj).1; omega), hj]⟩
theorem plain_addr {a : Addr} {v : Value} (h : w.cell? a = some v) : ∃ b o, a = ⟨b, o, none⟩ := by
  obtain ⟨b, o, s⟩ := a
  cases s with
  | none => exact ⟨b, o, rfl⟩
  | some x =>
    exfalso
    unfold World.cell? at h
    simp only [Option.isSome_some, if_true] at h
    split at h <;> simp at h
/-- A slice of integers. -/
theorem ints_of_trod {t e : TypeId} (ht : P.underlying t = some (.slice e)) (he : P.underlying e = some (.int .i64)) (hc : P.cellsOf e = 1) {fuel : Nat} {v : Value} {x : DataW H × List MemPlace} (h : DataW.trod enc P w 0 (fun _ => true) true fuel t [v] = some x) :
    ∃ (a : Option Addr) (l : List Int) (cap : Nat), v = .slice a l.length cap ∧ IntsAt w a l ∧ l.length ≤ maxLen ∧ (∀ n ∈ l, -9223372036854775808 ≤ n ∧ n ≤ 9223372036854775807) := by
  rcases open_ints ht he hc h with ⟨hcs, _⟩ | ⟨a, l, c, zs, hcs, _, hl, hm, hz, _, hcell, hwz⟩
  · simp at hcs
    exact ⟨none, [], 0, hcs, by intro j x hj; simp at hj, by simp, by simp⟩
  · simp at hcs
    have hlen : (zs.take l).length = l := by rw [List.length_take]; simp at hz; omega
    refine ⟨some a, zs.take l, c, by rw [hlen]; exact hcs, fun j x hj => ?_, by rw [hlen]; omega, fun n hn => ?_⟩
    · have hjl := (List.getElem?_eq_some_iff.1 hj).1
      rw [hlen] at hjl
      have hzj : zs[j]? = some x := by rw [List.getElem?_take, if_pos hjl] at hj; exact hj
      have hjz := (List.getElem?_eq_some_iff.1 hzj).1
      have hcj := hcell j hjz
      rw [List.getD_eq_getElem?_getD, hzj] at hcj
      obtain ⟨b, o, hbo⟩ := plain_addr hcj
      obtain ⟨b', o', s'⟩ := a
      by_cases hj0 : j = 0
      · subst hj0
        simp only [Addr.add, if_true] at hbo hcj
        rw [hbo] at hcj
        exact ⟨b, o, congrArg some hbo, by simpa using hcj⟩
      · have h0 := hcell 0 (by omega)
        obtain ⟨b0, o0, h00⟩ := plain_addr h0
        simp only [Addr.add, if_true] at h00
        cases h00
        rw [add_mk] at hcj
        exact ⟨_, _, rfl, hcj⟩
    · have := hwz n (List.mem_of_mem_take hn)
      simp only [Lit.wf, Bool.and_eq_true, decide_eq_true_eq] at this
      exact this
end

section
variable {H : Type} {enc : TypeId × Value → H} {w : World}
theorem cellsInt : Try.prog.cellsOf 3 = 1 := by kernel_rfl
theorem cellsStr : Try.prog.cellsOf 9 = 1 := by kernel_rfl
theorem cellsInts : Try.prog.cellsOf 28 = 1 := by kernel_rfl
theorem cellsOp : Try.prog.cellsOf 30 = 4 := by kernel_rfl
/-- One op. -/
theorem op_of_trod {fuel : Nat} {cs : List Value} {x : DataW H × List MemPlace} (h : DataW.trod enc Try.prog w 0 (fun _ => true) true fuel 30 cs = some x) :
    ∃ o : OpV, cs = [.int .i64 o.what, .int .i64 o.i, .string o.text, .slice o.ka o.keep.length o.kcap] ∧ IntsAt w o.ka o.keep ∧ o.text.size ≤ maxLen ∧ o.keep.length ≤ maxLen ∧ -9223372036854775808 ≤ o.i ∧ o.i ≤ 9223372036854775807 := by
  obtain ⟨xs, n, _, _, hl, hlen, hf⟩ := DataW.trod_struct Try.underlying30 h
  rw [cellsOp] at hl
  match xs, hlen with
  | [y0, y1, y2, y3], _ =>
    match cs, hl with
    | [v0, v1, v2, v3], _ =>
      have g0 : DataW.trod enc Try.prog w 0 (fun _ => true) true n 3 [v0] = some y0 := by simpa [cellsInt] using hf 0 _ rfl
      have g1 : DataW.trod enc Try.prog w 0 (fun _ => true) true n 3 [v1] = some y1 := by simpa [cellsInt] using hf 1 _ rfl
      have g2 : DataW.trod enc Try.prog w 0 (fun _ => true) true n 9 [v2] = some y2 := by simpa [cellsStr] using hf 2 _ rfl
      have g3 : DataW.trod enc Try.prog w 0 (fun _ => true) true n 28 [v3] = some y3 := by simpa [cellsInts] using hf 3 _ rfl
      obtain ⟨a0, e0, _, _⟩ := DataW.trod_int Try.underlying3 g0
      obtain ⟨a1, e1, _, w1⟩ := DataW.trod_int Try.underlying3 g1
      obtain ⟨a2, e2, _, h2⟩ := DataW.trod_string Try.underlying9 g2
      obtain ⟨a3, l3, c3, e3, h3, h4, _⟩ := ints_of_trod Try.underlying28 Try.underlying3 cellsInt g3
      simp only [List.cons.injEq, and_true] at e0 e1 e2
      subst e0 e1 e2 e3
      simp only [Lit.wf, Bool.and_eq_true, decide_eq_true_eq] at w1
      exact ⟨⟨a0, a1, a2, a3, l3, c3⟩, rfl, h3, h2, h4, w1.1, w1.2⟩
/-- A script. -/
theorem ops_of_trod {fuel : Nat} {v : Value} {x : DataW H × List MemPlace} (h : DataW.trod enc Try.prog w 0 (fun _ => true) true fuel 22 [v] = some x) :
    ∃ (a : Option Addr) (os : List OpV) (cap : Nat), v = .slice a os.length cap ∧ OpsAt w a os ∧ os.length ≤ maxLen := by
  rcases Deep.open_slice Try.underlying22 h with ⟨hcs, _⟩ | ⟨a, len, cap, m, n, D, Pl, hcs, _, hl, hm, hmm, _, hel⟩
  · simp at hcs
    exact ⟨none, [], 0, hcs, by intro j x hj; simp at hj, by simp⟩
  · simp at hcs hmm
    rw [cellsOp] at hel
    have hall : ∀ i, i < len → ∃ o : OpV, w.cells? 0 (a.add (i * 4)) 4 = some [.int .i64 o.what, .int .i64 o.i, .string o.text, .slice o.ka o.keep.length o.kcap] ∧ IntsAt w o.ka o.keep ∧ o.text.size ≤ maxLen ∧ o.keep.length ≤ maxLen ∧ -9223372036854775808 ≤ o.i ∧ o.i ≤ 9223372036854775807 := by
      intro i hi
      obtain ⟨cs', h1, h2⟩ := hel i (by omega)
      obtain ⟨o, rfl, h3⟩ := op_of_trod h2
      exact ⟨o, h1, h3⟩
    haveI : Inhabited OpV := ⟨⟨0, 0, ByteArray.empty, none, [], 0⟩⟩
    obtain ⟨f, hf⟩ := Deep.choose_lt hall
    refine ⟨some a, (List.range len).map f, cap, by simpa using hcs, fun j o hj => ?_, by simp; omega⟩
    have hjl := (List.getElem?_eq_some_iff.1 hj).1
    simp only [List.length_map, List.length_range] at hjl
    have ho : f j = o := by simpa [hjl] using hj
    obtain ⟨h1, h2, h3, h4, h5, h6⟩ := hf j hjl
    rw [ho] at h1 h2 h3 h4 h5 h6
    obtain ⟨_, hc⟩ := cells_get h1
    -- the head's own address is plain
    obtain ⟨_, hc0⟩ := cells_get (hf 0 (by omega)).1
    obtain ⟨b, off, hb⟩ := plain_addr (hc0 0 _ rfl)
    simp only [Nat.zero_mul, Addr.add_zero'] at hb
    subst hb
    have k0 := hc 0 _ rfl
    have k1 := hc 1 _ rfl
    have k2 := hc 2 _ rfl
    have k3 := hc 3 _ rfl
    simp only [add_mk, Nat.add_zero] at k0 k1 k2 k3
    refine ⟨b, off, rfl, k0, k1, k2, k3, h2, ?_, ?_, h5, h6⟩
    · unfold maxLen at h3; omega
    · unfold maxLen at h4; omega
end
end Go.Proofs.Ytpfgjopiddopbaa
