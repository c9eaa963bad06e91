/-
  A list copied, with a mark behind its end: 'twin'.
-/
import Derived.Test.YtpfgjopiddopbaaActs
namespace Go.Cib
open Go Go.RowKit
section
variable {P : Program} {T e : TypeId} {ops : Array Oper} {rest : List Oper} {a : Act} {w : World} {Q : Exit → Act → World → Prop} {dst : Option Tmp} {ty : TypeId} {pos : String} {af : Array Edge} {x y : Operand}
/-- 'append(v, l...)'. -/
theorem wc_append_ints (hT : IntsT P T e) {B : Nat} {v : Value} {l m : List Int} (h : OwnInts w B e v l) (hB : B ≤ w.heap.size) (hl : l.length + m.length ≤ 17592186044416) {ar : Array Operand} {ts : Array TypeId} (har : ar = #[x, y]) (hts : ts = #[T, T]) (hx : a.eval x = v)
    {ad : Addr} {cap : Nat} (hy : a.eval y = .slice (some ad) m.length cap) (hm : ∀ j n, m[j]? = some n → w.cell? (ad.add j) = some (.int .i64 n))
    (h' : ∀ v' w', OwnInts w' B e v' (l ++ m) → Tch v.ownBlock.toList w w' → wpList P ops Q rest (a.put dst v') w') : wpList P ops Q (⟨dst, .call { callee := .builtin .append, args := ar, argTypes := ts }, ty, pos, af, none⟩ :: rest) a w := by
  subst har hts
  obtain ⟨i, h1, h2, h3, h4⟩ := hT.info
  refine wpList_append_own w rfl x y T rfl B e i (.int .i64 0) 1 8 hT.und h1 h2 h3 h4 rfl (by decide) v l.length (l.map (Value.int .i64)) hx h ad m.length cap (m.map (Value.int .i64)) hy (by simp) ?_ ?_ ?_ ?_ hB ?_
  · intro j u hj
    rw [List.getElem?_map] at hj
    obtain ⟨n, hn, rfl⟩ := Option.map_eq_some_iff.1 hj
    exact hm j n hn
  · intro u hu
    obtain ⟨n, _, rfl⟩ := List.mem_map.1 hu
    rfl
  · unfold maxLen; omega
  · omega
  · intro v' w' hown hgr _
    refine h' v' w' ?_ (Tch.of_grown hgr (fun k hk => by rw [hk]; simp))
    unfold OwnInts
    simpa using hown
end
/-- The cells of a list of one's own. -/
theorem OwnInts.at {w : World} {B : Nat} {e : TypeId} {v : Value} {l : List Int} (h : OwnInts w B e v l) (hl : l ≠ []) : ∃ g cap, v = .slice (some ⟨g, 0, none⟩) l.length cap ∧ B ≤ g ∧ l.length ≤ cap ∧ ∀ j n, l[j]? = some n → w.cell? ⟨g, j, none⟩ = some (.int .i64 n) := by
  rcases h.shape with ⟨_, h2⟩ | ⟨g, cap, cur, h1, hb, hg, hlc, _, hcs, htk⟩
  · exact absurd h2 hl
  · refine ⟨g, cap, h1, hb, hlc, fun j n hj => ?_⟩
    rw [cell_of_row w g _ _ _ _ hg]
    have hjl := (List.getElem?_eq_some_iff.1 hj).1
    have h3 : (cur.toList.take l.length)[j]? = (l.map (Value.int .i64))[j]? := by rw [htk]
    rw [List.getElem?_take, if_pos hjl, Array.getElem?_toList, List.getElem?_map, hj] at h3
    exact h3
end Go.Cib
namespace Go.Proofs.Ytpfgjopiddopbaa
open Go.RowKit Go.Cib

set_option maxRecDepth 20000 in
set_option maxHeartbeats 1000000 in
theorem twin_any {w : World} (a : Option Addr) (cap : Nat) (l : List Int) (hl : IntsAt w a l) (hlen : l.length ≤ 17592186043904) :
    Calls Try.prog 38 #[.slice a l.length cap] w fun e w' => Tch [] w w' ∧ ∃ g cap', e = .returned (.slice (some ⟨g, 0, none⟩) l.length cap') ∧ w.heap.size ≤ g ∧ l.length + 1 ≤ cap' ∧
      IntsAt w' (some ⟨g, 0, none⟩) l ∧ w'.cell? ⟨g, l.length, none⟩ = some (.int .i64 (-77)) := by
  have HL := Lib.hid hl
  clear hl
  cases a with
  | none =>
    have hnil : l = [] := by
      cases l with
      | nil => rfl
      | cons x xs => obtain ⟨b, o, e, _⟩ := HL.out 0 x rfl; cases e
    subst hnil
    go_enter Try.func38, Try.ntmps38
    go_wp2_with ((with_reducible apply wc_append_int intsT (ownInts_nil _ w.heap.size _) (by simp) (by simp)); exact rfl; exact rfl; exact rfl; exact rfl; exact (World.cell?_alloc_new _ _ _ _).trans rfl; intro v6 w6 ho6 ht6; obtain ⟨g, c6, rfl, hg, hc, hat⟩ := ho6.at (by simp); simp only [List.nil_append, List.length_singleton] at hc; simp only [List.nil_append, List.length_singleton]; go_frame; have HAT := Lib.hid hat; have HT6 := Lib.hid ht6; have HG := Lib.hid hg; clear ho6 ht6 hat hg)
    go_ret
    have t6 : Tch [] _ w6 := HT6.out
    exact ⟨((Tch.refl [] w).alloc _).trans t6, _, _, rfl, HG.out, hc, fun j x hj => by simp at hj, HAT.out 0 _ rfl⟩
  | some ad =>
    have hm : ∀ j n, l[j]? = some n → w.cell? (ad.add j) = some (.int .i64 n) := by
      intro j n hj
      obtain ⟨b, o, e, hc⟩ := HL.out j n hj
      cases e
      rw [add_mk]; exact hc
    have HM := Lib.hid hm
    have HLEN := Lib.hid hlen
    clear hm hlen
    go_enter Try.func38, Try.ntmps38
    go_wp2_with (first | ((with_reducible apply wc_append_ints intsT (ownInts_nil w w.heap.size _) (Nat.le_refl _) (l := []) (m := l) (by have := HLEN.out; simp; omega)); exact rfl; exact rfl; exact rfl; exact rfl; exact HM.out; intro v1 w1 ho1 ht1; go_frame; have HO1 := Lib.hid ho1; have HT1 := Lib.hid ht1; clear ho1 ht1) | ((with_reducible apply wc_append_int intsT (HO1.out.kept ((Tch.refl [] _).alloc _) (by simp)) (by have := HT1.out.size; simp; omega) (by have := HLEN.out; simp; omega)); exact rfl; exact rfl; exact rfl; exact rfl; exact (World.cell?_alloc_new _ _ _ _).trans rfl; intro v6 w6 ho6 ht6; obtain ⟨g, c6, rfl, hg, hc, hat⟩ := ho6.at (by simp); simp only [List.nil_append, List.length_append, List.length_singleton] at hc; simp only [List.nil_append, List.length_append, List.length_singleton]; go_frame; have HAT := Lib.hid hat; have HT6 := Lib.hid ht6; have HG := Lib.hid hg; clear ho6 ht6 hat hg))
    go_ret
    have hat := HAT.out
    simp only [List.nil_append] at hat
    have t1 : Tch [] w w1 := HT1.out
    refine ⟨tch_own (t1.alloc _) HT6.out (fun k hk => (HO1.out.lt k hk).1), _, _, rfl, HG.out, hc, fun j x hj => ⟨g, 0, rfl, ?_⟩, hat _ _ (by simp)⟩
    rw [Nat.zero_add]
    exact hat j x (by rw [List.getElem?_append_left (List.getElem?_eq_some_iff.1 hj).1]; exact hj)
end Go.Proofs.Ytpfgjopiddopbaa
