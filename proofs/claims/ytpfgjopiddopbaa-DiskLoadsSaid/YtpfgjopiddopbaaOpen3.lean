/-
  Texts that are opened.
-/
import Derived.Test.YtpfgjopiddopbaaOpen2
import Derived.Test.YtpfgjopiddopbaaLoadsW
import Derived.Deep.Strs
namespace Go.Proofs.Ytpfgjopiddopbaa
open Go.ChangeShapes Go.WideShapes Go.RowKit Go.Cib
section
variable {H : Type} {enc : TypeId × Value → H} {P : Program} {w : World}
/-- A slice of texts. -/
theorem texts_of_trod {t e : TypeId} (ht : P.underlying t = some (.slice e)) (he : P.underlying e = some .string) (hc : P.cellsOf e = 1) {fuel : Nat} {v : Value} {x : DataW H × List MemPlace} (h : DataW.trod enc P w 0 (fun _ => true) true fuel t [v] = some x) :
    ∃ (a : Option Addr) (l : List ByteArray) (cap : Nat), v = .slice a l.length cap ∧ TextsAt w a l ∧ l.length ≤ maxLen ∧ ∀ s ∈ l, s.size ≤ maxLen := by
  rcases Deep.open_strs ht he hc h with ⟨hcs, _⟩ | ⟨a, len, cap, m, Sx, hcs, _, hl, hm, hmm, _, hel⟩
  · simp at hcs
    exact ⟨none, [], 0, hcs, by intro j x hj; simp at hj, by simp, by simp⟩
  · simp at hcs hmm
    refine ⟨some a, (List.range len).map Sx, cap, by simpa using hcs, fun j s hj => ?_, by simp; omega, fun s hs => ?_⟩
    · have hjl := (List.getElem?_eq_some_iff.1 hj).1
      simp only [List.length_map, List.length_range] at hjl
      have ho : Sx j = s := by simpa [hjl] using hj
      subst ho
      have hcj := (hel j (by omega)).1
      obtain ⟨b, o, hbo⟩ := plain_addr hcj
      obtain ⟨b', o', s'⟩ := a
      by_cases hj0 : j = 0
      · subst hj0
        simp only [Addr.add, if_true] at hbo hcj
        rw [hbo] at hcj
        exact ⟨b, o, congrArg some hbo, by simpa using hcj⟩
      · have h0 := (hel 0 (by omega)).1
        obtain ⟨b0, o0, h00⟩ := plain_addr h0
        simp only [Addr.add, if_true] at h00
        cases h00
        rw [add_mk] at hcj
        exact ⟨_, _, rfl, hcj⟩
    · obtain ⟨j, hj, rfl⟩ := List.mem_map.1 hs
      exact (hel j (by have := List.mem_range.1 hj; omega)).2
end
end Go.Proofs.Ytpfgjopiddopbaa
