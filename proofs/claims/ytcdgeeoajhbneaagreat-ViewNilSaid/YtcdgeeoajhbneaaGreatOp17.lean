/-
  What an op of layer 17 reads as, opened with the reach.
-/
import Derived.Test.YtcdgeeoajhbneaaGreatOpV17
import Derived.ProofKit
import Derived.OpenShut
import Derived.ShutString
import Derived.ChangeOld
import Derived.Deep.Slices
import Derived.SizedLaws
namespace Go.Proofs.YtcdgeeoajhbneaaGreat
open Go.ChangeShapes Go.WideShapes Go.ChangeAt Go.RowKit Go.Cib

theorem own : ownKnob Tryz.prog.godebug = none := by kernel_rfl
theorem laidOut : laidOutB Tryz.prog = true := by kernel_rfl

section
variable {H : Type} {enc : TypeId × Value → H} {P : Program} {w : World}
theorem cells_get {base : Nat} {a : Addr} {n : Nat} {cs : List Value} (h : w.cells? base a n = some cs) : cs.length = n ∧ ∀ j v, cs[j]? = some v → w.cell? (a.add j) = some v := by
  obtain ⟨_, h2, h3⟩ := World.cells?_some h
  exact ⟨h2, fun j v hj => by rw [h3 j (by have := (List.getElem?_eq_some_iff.1 hj).1; omega), hj]⟩
theorem plain_addr {a : Addr} {v : Value} (h : w.cell? a = some v) : ∃ b o, a = ⟨b, o, none⟩ := by
  obtain ⟨b, o, s⟩ := a
  cases s with
  | none => exact ⟨b, o, rfl⟩
  | some x =>
    exfalso
    unfold World.cell? at h
    simp only [Option.isSome_some, if_true] at h
    split at h <;> simp at h
theorem weightsAll_mem : ∀ {l : List (DataW H)} {e : TypeId} {d : DataW H}, d ∈ l → ∀ n ∈ d.weights P e, n ∈ DataW.weightsAll P e l
  | x :: r, e, d, hd, n, hn => by
    simp only [DataW.weightsAll, List.mem_append]
    rcases List.mem_cons.1 hd with rfl | hd
    · exact .inl hn
    · exact .inr (weightsAll_mem hd n hn)
end
section
variable {H : Type} {enc : TypeId × Value → H} {w : World}
theorem cellsOp17 : Tryz.prog.cellsOf 23 = 5 := by kernel_rfl
theorem cellsInt : Tryz.prog.cellsOf 3 = 1 := by kernel_rfl
theorem cellsStr : Tryz.prog.cellsOf 9 = 1 := by kernel_rfl
theorem str_len (s : ByteArray) : s.data.toList.length = s.size := by rw [Array.length_toList]; rfl
set_option maxRecDepth 20000 in
/-- One op. -/
theorem op17_of_trod {fuel : Nat} {cs : List Value} {x : DataW H × List MemPlace} (h : DataW.trod enc Tryz.prog w 0 (fun _ => true) true fuel 23 cs = some x) (hw : ∀ n ∈ x.1.weights Tryz.prog 23, n ≤ reachBytes) :
    ∃ o : OpV17, cs = [.int .i64 o.what, .int .i64 o.at_, .int .i64 o.n, .string o.key, .string o.val] ∧ o.Fits := by
  obtain ⟨xs, n, _, hx, hl, hlen, hf⟩ := DataW.trod_struct Tryz.underlying23 h
  rw [cellsOp17] at hl
  subst hx
  match xs, hlen with
  | [y0, y1, y2, y3, y4], _ =>
    match cs, hl with
    | [v0, v1, v2, v3, v4], _ =>
      have g0 : DataW.trod enc Tryz.prog w 0 (fun _ => true) true n 3 [v0] = some y0 := by simpa [cellsInt] using hf 0 _ rfl
      have g1 : DataW.trod enc Tryz.prog w 0 (fun _ => true) true n 3 [v1] = some y1 := by simpa [cellsInt] using hf 1 _ rfl
      have g2 : DataW.trod enc Tryz.prog w 0 (fun _ => true) true n 3 [v2] = some y2 := by simpa [cellsInt] using hf 2 _ rfl
      have g3 : DataW.trod enc Tryz.prog w 0 (fun _ => true) true n 9 [v3] = some y3 := by simpa [cellsInt, cellsStr] using hf 3 _ rfl
      have g4 : DataW.trod enc Tryz.prog w 0 (fun _ => true) true n 9 [v4] = some y4 := by simpa [cellsInt, cellsStr] using hf 4 _ rfl
      obtain ⟨a0, e0, _, _⟩ := DataW.trod_int Tryz.underlying3 g0
      obtain ⟨a1, e1, _, _⟩ := DataW.trod_int Tryz.underlying3 g1
      obtain ⟨a2, e2, _, _⟩ := DataW.trod_int Tryz.underlying3 g2
      obtain ⟨a3, e3, x3, _⟩ := DataW.trod_string Tryz.underlying9 g3
      obtain ⟨a4, e4, x4, _⟩ := DataW.trod_string Tryz.underlying9 g4
      simp only [List.cons.injEq, and_true] at e0 e1 e2 e3 e4
      subst e0 e1 e2 e3 e4 x3 x4
      refine ⟨⟨a0, a1, a2, a3, a4⟩, rfl, ⟨?_, ?_⟩⟩
      · have := hw a3.data.toList.length (by
          simp only [DataW.weights, Tryz.underlying23, List.map_cons, List.map_nil, DataW.weightsEach, List.mem_append]
          right; right; right; left; simp)
        rw [str_len] at this
        exact Nat.le_trans this (by decide)
      · have := hw a4.data.toList.length (by
          simp only [DataW.weights, Tryz.underlying23, List.map_cons, List.map_nil, DataW.weightsEach, List.mem_append]
          right; right; right; right; left; simp)
        rw [str_len] at this
        exact Nat.le_trans this (by decide)
end
end Go.Proofs.YtcdgeeoajhbneaaGreat
