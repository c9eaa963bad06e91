/-
  Small laws, for any program: lists of images that grow, pages stored into them; and: is a number in a list.
-/
import Derived.Test.YthbaipljlbddcaaGreatLogL
namespace Go.Cib
open Go Go.RowKit
abbrev imgRows (ls : List (Int × Page)) : List (Array Value) := ls.map fun q => imageA q.1 q.2
theorem imgRows_size (ls : List (Int × Page)) : ∀ x ∈ imgRows ls, x.size = 481 := by
  intro x hx
  obtain ⟨q, _, rfl⟩ := List.mem_map.1 hx
  exact size_imageA _ _
/-- v is a slice of images of the call's own (blocks from B on). -/
def OwnImgs (w : World) (B : Nat) (e : TypeId) (v : Value) (ls : List (Int × Page)) : Prop := w.ownsRow B e 481 v ls.length (rowsA (imgRows ls)).toList
theorem ownImgs_nil (w : World) (B : Nat) (e : TypeId) : OwnImgs w B e (.slice none 0 0) [] := World.ownsRow_nil w B e 481
theorem OwnImgs.shape {w : World} {B : Nat} {e : TypeId} {v : Value} {ls : List (Int × Page)} (h : OwnImgs w B e v ls) :
    (v = .slice none 0 0 ∧ ls = []) ∨ ∃ g cap cur, v = .slice (some ⟨g, 0, none⟩) ls.length cap ∧ B ≤ g ∧ w.heap[g]? = some (.cells cur e) ∧ ls.length ≤ cap ∧ cap ≤ maxLen ∧ cur.size = cap * 481 ∧ cur.toList.take (ls.length * 481) = (rowsA (imgRows ls)).toList := by
  obtain ⟨h1, h2⟩ := h
  rcases h2 with ⟨rfl, h3⟩ | ⟨g, cap, cur, rfl, h3, h4, h5, h6, h7, h8⟩
  · exact .inl ⟨rfl, List.eq_nil_of_length_eq_zero h3⟩
  · exact .inr ⟨g, cap, cur, rfl, h3, h4, h5, h6, h7, h8⟩
theorem OwnImgs.kept {w w' : World} {B : Nat} {e : TypeId} {v : Value} {l : List (Int × Page)} {S : List Nat} (h : OwnImgs w B e v l) (ht : Tch S w w') (hn : ∀ g, v.ownBlock = some g → g ∉ S) : OwnImgs w' B e v l := by
  obtain ⟨h1, h2⟩ := h
  refine ⟨h1, ?_⟩
  rcases h2 with h2 | ⟨g, cap, cur, rfl, h3, h4, h5⟩
  · exact .inl h2
  · exact .inr ⟨g, cap, cur, rfl, h3, ht.heap h4 (hn g rfl), h5⟩
theorem OwnImgs.lt {w : World} {B : Nat} {e : TypeId} {v : Value} {l : List (Int × Page)} (h : OwnImgs w B e v l) : ∀ k ∈ v.ownBlock.toList, B ≤ k ∧ k < w.heap.size := by
  intro k hk
  rcases h.shape with ⟨rfl, _⟩ | ⟨g, cap, cur, rfl, hb, hg, _⟩
  · simp [Value.ownBlock] at hk
  · simp [Value.ownBlock] at hk
    subst hk
    exact ⟨hb, lt_of_heap hg⟩
theorem OwnImgs.base {w : World} {B B' : Nat} {e : TypeId} {v : Value} {l : List (Int × Page)} (h : OwnImgs w B e v l) (hB : B' ≤ B) : OwnImgs w B' e v l := by
  obtain ⟨h1, h2⟩ := h
  refine ⟨h1, ?_⟩
  rcases h2 with h2 | ⟨g, cap, cur, rfl, h3, h4⟩
  · exact .inl h2
  · exact .inr ⟨g, cap, cur, rfl, by omega, h4⟩
theorem take_extract {c : Array Value} {n i : Nat} {r : List Value} (h : c.toList.take n = r) (hi : i + 481 ≤ n) : c.extract i (i + 481) = r.toArray.extract i (i + 481) := by
  subst h
  apply Array.toList_inj.1
  rw [Array.toList_extract, Array.toList_extract, List.extract_eq_take_drop, List.extract_eq_take_drop]
  simp only
  rw [List.drop_take, List.take_take]
  congr 1
  omega
set_option maxRecDepth 20000 in
theorem OwnImgs.at_ {w : World} {B : Nat} {e : TypeId} {v : Value} {ls : List (Int × Page)} (h : OwnImgs w B e v ls) : ∃ a cap, v = .slice a ls.length cap ∧ ImgsAt w a ls ∧ ∀ b, a = some ⟨b, 0, none⟩ → B ≤ b := by
  rcases h.shape with ⟨rfl, rfl⟩ | ⟨g, cap, cur, rfl, hb, hg, hlc, _, hcs, htk⟩
  · exact ⟨none, 0, rfl, fun i q hi => by simp at hi, fun b hb => by cases hb⟩
  · refine ⟨some ⟨g, 0, none⟩, cap, rfl, fun i q hi => ?_, fun b hb2 => by cases hb2; exact hb⟩
    have hil := (List.getElem?_eq_some_iff.1 hi).1
    have hmul : i * 481 + 481 ≤ ls.length * 481 := by have := Nat.mul_le_mul_right 481 (show i + 1 ≤ ls.length from hil); omega
    have hcap : ls.length * 481 ≤ cur.size := by have := Nat.mul_le_mul_right 481 hlc; omega
    refine ⟨g, cur, e, _, rfl, hg, by omega, ?_⟩
    rw [take_extract htk hmul]
    exact rowsA_extract (imgRows_size ls) (by rw [List.getElem?_map, hi]; rfl)
theorem getElem?_spl (c vs : Array Value) (off k : Nat) (h : off + vs.size ≤ c.size) : (spl c off vs)[k]? = if off ≤ k ∧ k < off + vs.size then vs[k - off]? else c[k]? := by
  rw [← foldl_spl off vs c h]
  have e : vs.zipIdx.foldl (fun (cs : Array Value) (q : Value × Nat) => cs.setIfInBounds (off + q.2) q.1) c = (vs.toList.zipIdx 0).foldl (fun (cs : Array Value) (q : Value × Nat) => cs.setIfInBounds (off + q.2) q.1) c := by
    rw [← Array.foldl_toList, Array.toList_zipIdx]
  rw [e, foldl_put]
  simp only [Array.length_toList, Nat.add_zero]
  by_cases h1 : off ≤ k ∧ k < off + vs.size
  · rw [if_pos ⟨h1.1, h1.2, by omega⟩, if_pos h1]
    simp
  · rw [if_neg (fun hh => h1 ⟨hh.1, hh.2.1⟩), if_neg h1]
set_option maxRecDepth 20000 in
/-- A page laid into a row of images. -/
theorem spl_imgpage {ls : List (Int × Page)} {i : Nat} {q : Int × Page} (hi : ls[i]? = some q) (p : Page) : spl (rowsA (imgRows ls)) (i * 481 + 1) (secA p) = rowsA (imgRows (ls.set i (q.1, p))) := by
  have hil := (List.getElem?_eq_some_iff.1 hi).1
  have hsz := size_rowsA (imgRows_size ls)
  rw [List.length_map] at hsz
  have hmul : i * 481 + 481 ≤ ls.length * 481 := by have := Nat.mul_le_mul_right 481 (show i + 1 ≤ ls.length from hil); omega
  have e : imgRows (ls.set i (q.1, p)) = (imgRows ls).set i (imageA q.1 p) := by unfold imgRows; rw [List.map_set]
  rw [e, ← rowsA_spl (imgRows_size ls) (by simpa using hil) _ (size_imageA _ _)]
  apply Array.ext_getElem?
  intro k
  rw [getElem?_spl _ _ _ _ (by have := size_secA p; omega), getElem?_spl _ _ _ _ (by have := size_imageA q.1 p; omega)]
  simp only [size_secA, size_imageA]
  by_cases h1 : i * 481 + 1 ≤ k ∧ k < i * 481 + 1 + 480
  · rw [if_pos h1, if_pos (by omega)]
    unfold imageA
    rw [Array.getElem?_append_right (by simp; omega)]
    congr 1
  · rw [if_neg h1]
    by_cases h2 : i * 481 ≤ k ∧ k < i * 481 + 481
    · rw [if_pos h2]
      have hk : k = i * 481 + 0 := by omega
      rw [hk, rowsA_cell (imgRows_size ls) (x := imageA q.1 q.2) (by rw [List.getElem?_map, hi]; rfl) (by omega)]
      rw [show i * 481 + 0 - i * 481 = 0 by omega]
      unfold imageA
      rw [Array.getElem?_append_left (by simp), Array.getElem?_append_left (by simp)]
    · rw [if_neg h2]
section
variable {P : Program} {T S e : TypeId} {ops : Array Oper} {rest : List Oper} {a : Act} {w : World} {Q : Exit → Act → World → Prop} {dst : Option Tmp} {ty : TypeId} {pos : String} {af : Array Edge} {x y : Operand}
set_option maxRecDepth 20000 in
/-- 'l[i].Data = p'. -/
theorem wc_store_imgpage (hT : AggT P T 480) {B : Nat} {v : Value} {ls : List (Int × Page)} {i g len cap : Nat} {q : Int × Page} {p : Page} (h : OwnImgs w B e v ls) (hi : ls[i]? = some q) (hv : v = .slice (some ⟨g, 0, none⟩) len cap) (hx : a.eval x = .pointer (some ⟨g, i * 481 + 1, none⟩)) (hy : a.eval y = .agg (secA p))
    (h' : ∀ w', OwnImgs w' B e v (ls.set i (q.1, p)) → Tch [g] w w' → wpList P ops Q rest (a.put dst undef) w') : wpList P ops Q (⟨dst, .store T x y, ty, pos, af, none⟩ :: rest) a w := by
  have hil := (List.getElem?_eq_some_iff.1 hi).1
  have hmul : i * 481 + 481 ≤ ls.length * 481 := by have := Nat.mul_le_mul_right 481 (show i + 1 ≤ ls.length from hil); omega
  obtain ⟨h1, h2⟩ := h
  rcases h2 with ⟨h3, _⟩ | ⟨g', cap', cur, h3, h4, h5, h6, h7, h8, h9⟩
  · rw [hv] at h3; cases h3
  · rw [hv] at h3
    cases h3
    have hcap : ls.length * 481 ≤ cur.size := by have := Nat.mul_le_mul_right 481 h6; omega
    refine wc_done rfl (exec_store_agg hT rfl hx hy (size_secA p) (secA_one p) h5 (by omega)) (h' _ ?_ ((Tch.refl _ _).setRow (.inl (by simp)) _))
    have hs := size_spl cur (i * 481 + 1) (secA p) (by have := size_secA p; omega)
    have hsz := size_rowsA (imgRows_size ls)
    have hsz2 := size_rowsA (imgRows_size (ls.set i (q.1, p)))
    rw [List.length_map] at hsz hsz2
    refine ⟨by rw [Array.length_toList, hsz2], .inr ⟨g, cap, spl cur (i * 481 + 1) (secA p), by rw [hv, List.length_set], h4, setRow_heap _ _ _ _ _ _ h5, by rw [List.length_set]; exact h6, h7, by rw [hs]; exact h8, ?_⟩⟩
    rw [List.length_set, ← spl_imgpage hi p]
    have hx1 : cur.extract 0 (ls.length * 481) = rowsA (imgRows ls) := by
      apply Array.toList_inj.1
      rw [← h9, Array.toList_extract, List.extract_eq_take_drop]
      simp
    have := spl_extract (c := cur) (v := secA p) (off := i * 481 + 1) (m := ls.length * 481) (by have := size_secA p; omega) hcap
    rw [hx1] at this
    rw [← this, Array.toList_extract, List.extract_eq_take_drop]
    simp
set_option maxRecDepth 20000 in
/-- 'append(l, image)'. -/
theorem wc_append_img (hz : ∃ i, P.info? T = some i ∧ i.zero = some (.agg (imageA 0 Arr.zero)) ∧ i.size = 481 ∧ i.bytes ≤ 600) (hS : P.underlying S = some (.slice T)) {B : Nat} {v : Value} {ls : List (Int × Page)} (h : OwnImgs w B T v ls) (hB : B ≤ w.heap.size) (hl : ls.length ≤ 100000) {ar : Array Operand} {ts : Array TypeId} (har : ar = #[x, y]) (hts : ts = #[S, S]) (hx : a.eval x = v)
    {g : Nat} {q : Int × Page} {e : TypeId} (hy : a.eval y = .slice (some ⟨g, 0, none⟩) 1 1) (hg : w.heap[g]? = some (.cells (imageA q.1 q.2) e))
    (h' : ∀ v' w', OwnImgs w' B T v' (ls ++ [q]) → Tch v.ownBlock.toList w w' → wpList P ops Q rest (a.put dst v') w') : wpList P ops Q (⟨dst, .call { callee := .builtin .append, args := ar, argTypes := ts }, ty, pos, af, none⟩ :: rest) a w := by
  subst har hts
  obtain ⟨i, h1, h2, h3, h4⟩ := hz
  refine wpList_append_own w rfl x y S rfl B T i (.agg (imageA 0 Arr.zero)) 481 i.bytes hS h1 h2 h3 rfl (size_imageA _ _) (by decide) v ls.length (rowsA (imgRows ls)).toList hx h ⟨g, 0, none⟩ 1 1 (imageA q.1 q.2).toList hy (by simp [size_imageA]) ?_ ?_ ?_ ?_ hB ?_
  · intro j u hj
    rw [add_mk, Nat.zero_add, cell_of_row w g j _ _ _ hg]
    simpa using hj
  · exact imageA_one _ _
  · unfold maxLen; omega
  · have := Nat.mul_le_mul_left (ls.length + 1) h4
    omega
  · intro v' w' hown hgr _
    refine h' v' w' ?_ (Tch.of_grown hgr (fun k hk => by rw [hk]; simp))
    unfold OwnImgs
    have e1 : (rowsA (imgRows (ls ++ [q]))).toList = (rowsA (imgRows ls)).toList ++ (imageA q.1 q.2).toList := by
      unfold imgRows rowsA
      simp
    rw [e1, List.length_append, List.length_singleton]
    exact hown
end
end Go.Cib
