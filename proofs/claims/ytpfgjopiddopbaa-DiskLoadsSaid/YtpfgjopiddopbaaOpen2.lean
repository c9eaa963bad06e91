/-
  Scripts that are opened with the reach: a list of numbers that is read has room for one more.
-/
import Derived.Test.YtpfgjopiddopbaaOpen1
import Derived.SizedLaws
namespace Go.Cib
open Go Go.RowKit Go.ChangeShapes
section
variable {H : Type} {enc : TypeId × Value → H} {P : Program} {w : World}
theorem weightsAll_mem : ∀ {l : List (DataW H)} {e : TypeId} {d : DataW H}, d ∈ l → ∀ n ∈ d.weights P e, n ∈ DataW.weightsAll P e l
  | x :: r, e, d, hd, n, hn => by
    simp only [DataW.weightsAll, List.mem_append]
    rcases List.mem_cons.1 hd with rfl | hd
    · exact .inl hn
    · exact .inr (weightsAll_mem hd n hn)
/-- A list of numbers takes at most so many. -/
theorem ints_sized {t e : TypeId} (ht : P.underlying t = some (.slice e)) (he : P.underlying e = some (.int .i64)) (hc : P.cellsOf e = 1) (hb : P.bytesOf e = 8) {fuel : Nat} {a : Option Addr} {len cap : Nat} {x : DataW H × List MemPlace}
    (h : DataW.trod enc P w 0 (fun _ => true) true fuel t [.slice a len cap] = some x) (hw : ∀ n ∈ x.1.weights P t, n ≤ reachBytes) : len ≤ 17592186043904 := by
  rcases open_ints ht he hc h with ⟨hcs, _⟩ | ⟨a', l, c, zs, hcs, _, hl, hm, hz, hx, _, _⟩
  · simp at hcs
    omega
  · simp only [List.cons.injEq, Value.slice.injEq, and_true] at hcs
    obtain ⟨_, rfl, rfl⟩ := hcs
    have h1 := hw ((zs.take len).length * 8 + (zs.drop len).length * 8) (by
      rw [hx]
      simp only [DataW.weights, ht, hb, lits, List.length_map, List.mem_cons]
      left
      omega)
    simp only [if_true] at hz
    rw [List.length_take, List.length_drop] at h1
    unfold reachBytes at h1
    omega
end
end Go.Cib
namespace Go.Proofs.Ytpfgjopiddopbaa
open Go.ChangeShapes Go.WideShapes Go.RowKit Go.Cib
section
variable {H : Type} {enc : TypeId × Value → H} {w : World}
theorem bytesInt : Try.prog.bytesOf 3 = 8 := by kernel_rfl
theorem op_sized {fuel : Nat} {o : OpV} {x : DataW H × List MemPlace} (h : DataW.trod enc Try.prog w 0 (fun _ => true) true fuel 30 [.int .i64 o.what, .int .i64 o.i, .string o.text, .slice o.ka o.keep.length o.kcap] = some x)
    (hw : ∀ n ∈ x.1.weights Try.prog 30, n ≤ reachBytes) : o.keep.length ≤ 17592186043904 := by
  obtain ⟨xs, n, _, rfl, _, hlen, hf⟩ := DataW.trod_struct Try.underlying30 h
  match xs, hlen with
  | [y0, y1, y2, y3], _ =>
    have g3 : DataW.trod enc Try.prog w 0 (fun _ => true) true n 28 [.slice o.ka o.keep.length o.kcap] = some y3 := by simpa [cellsInts] using hf 3 _ rfl
    refine ints_sized Try.underlying28 Try.underlying3 cellsInt bytesInt g3 fun k hk => hw k ?_
    simp only [DataW.weights, Try.underlying30, List.map_cons, List.map_nil, DataW.weightsEach, List.mem_append]
    right; right; right; left
    exact hk
theorem ops_of_trod_sized {fuel : Nat} {v : Value} {x : DataW H × List MemPlace} (h : DataW.trod enc Try.prog w 0 (fun _ => true) true fuel 22 [v] = some x) (hw : ∀ n ∈ x.1.weights Try.prog 22, n ≤ reachBytes) :
    ∃ (a : Option Addr) (os : List OpV) (cap : Nat), v = .slice a os.length cap ∧ OpsAt w a os ∧ os.length ≤ maxLen ∧ ∀ o ∈ os, o.keep.length ≤ 17592186043904 := by
  rcases Deep.open_slice Try.underlying22 h with ⟨hcs, _⟩ | ⟨a, len, cap, m, n, D, Pl, hcs, _, hl, hm, hmm, rfl, hel⟩
  · simp at hcs
    exact ⟨none, [], 0, hcs, by intro j x hj; simp at hj, by simp, by simp⟩
  · simp at hcs hmm
    rw [cellsOp] at hel
    have hall : ∀ i, i < len → ∃ o : OpV, w.cells? 0 (a.add (i * 4)) 4 = some [.int .i64 o.what, .int .i64 o.i, .string o.text, .slice o.ka o.keep.length o.kcap] ∧ IntsAt w o.ka o.keep ∧ o.text.size ≤ maxLen ∧ o.keep.length ≤ maxLen ∧ -9223372036854775808 ≤ o.i ∧ o.i ≤ 9223372036854775807 ∧ o.keep.length ≤ 17592186043904 := by
      intro i hi
      obtain ⟨cs', h1, h2⟩ := hel i (by omega)
      obtain ⟨o, rfl, h3, h4, h5, h6, h7⟩ := op_of_trod h2
      refine ⟨o, h1, h3, h4, h5, h6, h7, op_sized h2 fun k hk => hw k ?_⟩
      simp only [DataW.weights, Try.underlying22, List.mem_cons, List.mem_append]
      right; left
      exact weightsAll_mem (List.mem_map.2 ⟨i, List.mem_range.2 hi, rfl⟩) k hk
    haveI : Inhabited OpV := ⟨⟨0, 0, ByteArray.empty, none, [], 0⟩⟩
    obtain ⟨f, hf⟩ := Deep.choose_lt hall
    refine ⟨some a, (List.range len).map f, cap, by simpa using hcs, fun j o hj => ?_, by simp; omega, fun o ho => ?_⟩
    · have hjl := (List.getElem?_eq_some_iff.1 hj).1
      simp only [List.length_map, List.length_range] at hjl
      have ho : f j = o := by simpa [hjl] using hj
      obtain ⟨h1, h2, h3, h4, h5, h6, _⟩ := hf j hjl
      rw [ho] at h1 h2 h3 h4 h5 h6
      obtain ⟨_, hc⟩ := cells_get h1
      obtain ⟨_, hc0⟩ := cells_get (hf 0 (by omega)).1
      obtain ⟨b, off, hb⟩ := plain_addr (hc0 0 _ rfl)
      simp only [Nat.zero_mul, Addr.add_zero'] at hb
      subst hb
      have k0 := hc 0 _ rfl
      have k1 := hc 1 _ rfl
      have k2 := hc 2 _ rfl
      have k3 := hc 3 _ rfl
      simp only [add_mk, Nat.add_zero] at k0 k1 k2 k3
      refine ⟨b, off, rfl, k0, k1, k2, k3, h2, ?_, ?_, h5, h6⟩
      · unfold maxLen at h3; omega
      · unfold maxLen at h4; omega
    · obtain ⟨j, hj, rfl⟩ := List.mem_map.1 ho
      exact (hf j (List.mem_range.1 hj)).2.2.2.2.2.2
end
end Go.Proofs.Ytpfgjopiddopbaa
