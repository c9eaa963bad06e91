/-
  Small laws, for any program: slices of bytes: what they read, make, copy.
-/
import Derived.Test.YthbaipljlbddcaaGreatRegAll
import Derived.Laws.CopyOwn
namespace Go.Cib
open Go Go.RowKit
/-- A slice's head reads as these bytes. -/
def BytesAt (w : World) (a : Option Addr) (l : List UInt8) : Prop :=
  ∀ j x, l[j]? = some x → ∃ b o, a = some ⟨b, o, none⟩ ∧ w.cell? ⟨b, o + j, none⟩ = some (bv x)
theorem BytesAt.touch {w w' : World} {a : Option Addr} {l : List UInt8} {S : List Nat} (h : BytesAt w a l) (ht : Tch S w w') (hn : ∀ x, l ≠ [] → a = some x → x.block ∉ S) : BytesAt w' a l := by
  intro j x hj
  obtain ⟨b, o, ha, hc⟩ := h j x hj
  refine ⟨b, o, ha, ?_⟩
  have hb : b ∉ S := hn _ (by intro e; subst e; simp at hj) ha
  rw [World.cell?_of_block (w := w) (ht.block b (block_lt_of_cell hc) hb)]
  exact hc
theorem BytesAt.later {w w' : World} {a : Option Addr} {l : List UInt8} (h : BytesAt w a l) (ht : Tch [] w w') : BytesAt w' a l := h.touch ht (by simp)
theorem bytesAt_nil (w : World) (a : Option Addr) : BytesAt w a [] := fun j x h => by simp at h
/-- Part of a row of bytes. -/
theorem bytesAt_row {w : World} {b : Nat} {l : List UInt8} {e : TypeId} {fr : Nat × Nat} (h : w.heap[b]? = some (.cells (bytesA l) e fr)) (o : Nat) : BytesAt w (some ⟨b, o, none⟩) (l.drop o) := by
  intro j x hj
  refine ⟨b, o, rfl, ?_⟩
  rw [cell_of_row w b (o + j) _ _ _ h, bytesA_get]
  rw [List.getElem?_drop] at hj
  rw [hj]; rfl
theorem BytesAt.take {w : World} {a : Option Addr} {l : List UInt8} (h : BytesAt w a l) (n : Nat) : BytesAt w a (l.take n) := by
  intro j x hj
  rw [List.getElem?_take] at hj
  split at hj
  · exact h j x hj
  · cases hj
theorem BytesAt.drop {w : World} {b o : Nat} {l : List UInt8} (h : BytesAt w (some ⟨b, o, none⟩) l) (n : Nat) : BytesAt w (some ⟨b, o + n, none⟩) (l.drop n) := by
  intro j x hj
  rw [List.getElem?_drop] at hj
  obtain ⟨b', o', e, hc⟩ := h (n + j) x hj
  cases e
  exact ⟨b, o + n, rfl, by rw [Nat.add_assoc]; exact hc⟩

/-- T is a slice of bytes, e a byte. -/
structure ByteT (P : Program) (T e : TypeId) : Prop where
  und : P.underlying T = some (.slice e)
  info : ∃ i, P.info? e = some i ∧ i.zero = some (.int .u8 0) ∧ i.size = 1 ∧ i.bytes = 1
theorem ByteT.of {P : Program} {T e : TypeId} (h1 : P.underlying T = some (.slice e)) (h2 : (P.info? e).map (fun i => (i.zero, i.size, i.bytes)) = some (some (.int .u8 0), 1, 1)) : ByteT P T e := by
  obtain ⟨i, hi, hi2⟩ := Option.map_eq_some_iff.1 h2
  simp only [Prod.mk.injEq] at hi2
  exact ⟨h1, i, hi, hi2⟩
theorem rows_bytes (n : Nat) : rowsA (List.replicate n (Value.int .u8 0).cells) = bytesA (List.replicate n 0) := by
  apply Array.toList_inj.1
  simp only [rowsA, bytesA, List.map_replicate]
  have flat : ∀ k, (List.replicate k #[Value.int .u8 0]).flatMap Array.toList = List.replicate k (Value.int .u8 0) := by
    intro k
    induction k with
    | zero => rfl
    | succ k ih => rw [List.replicate_succ, List.replicate_succ, List.flatMap_cons, ih]; rfl
  exact flat n
section
variable {P : Program} {T e : TypeId} {ops : Array Oper} {rest : List Oper} {a : Act} {w : World} {Q : Exit → Act → World → Prop} {dst : Option Tmp} {ty : TypeId} {pos : String} {af : Array Edge} {x y : Operand} {gd : Option (Nat × Bool)}
theorem exec_makeBytes (hT : ByteT P T e) {n : Nat} (hn : n ≤ 281474976710656) (hx : a.eval x = .int .i64 n) (hy : a.eval y = .int .i64 n) :
    (execOp a.eval ⟨dst, .makeSlice T x y, ty, pos, af, gd⟩).run P w = .ok (.value (.slice (some ⟨w.heap.size, 0, none⟩) n n)) (w.alloc (.cells (bytesA (List.replicate n 0)) e)) := by
  obtain ⟨i, hi, hz, hs, hb⟩ := hT.info
  have hm := madeRows (Value.int .u8 0).cells n
  have hr := run_make (P := P) w T e i (.int .u8 0) hT.und hi hz .i64 .i64 n n (by omega) (by omega) (by rw [hb]; omega) (by omega)
  simp only [Int.toNat_natCast] at hr
  have hcs : (Value.int .u8 0).cells.size = i.size := by rw [hs]; rfl
  rw [← hcs, show madeCells (Value.int .u8 0).cells (n * (Value.int .u8 0).cells.size) = _ from hm, rows_bytes] at hr
  unfold execOp
  simp [hx, hy, hr]
theorem wc_makeBytes (hT : ByteT P T e) {n : Nat} (hn : n ≤ 281474976710656) (hx : a.eval x = .int .i64 n) (hy : a.eval y = .int .i64 n)
    (h : wpList P ops Q rest (a.put dst (.slice (some ⟨w.heap.size, 0, none⟩) n n)) (w.alloc (.cells (bytesA (List.replicate n 0)) e))) : wpList P ops Q (⟨dst, .makeSlice T x y, ty, pos, af, none⟩ :: rest) a w :=
  wc_value rfl (exec_makeBytes hT hn hx hy) h
/-- 'copy(d, s)' of bytes: d's block a row of bytes. -/
theorem exec_copy_bytes (hT : ByteT P T e) {S2 : TypeId} {g off dLen dCap : Nat} {cur : List UInt8} {t : TypeId} (hg : w.heap[g]? = some (.cells (bytesA cur) t)) (hoff : off + dLen ≤ cur.length) {ad : Option Addr} {sCap : Nat} {l : List UInt8} (hl : BytesAt w ad l)
    (hx : a.eval x = .slice (some ⟨g, off, none⟩) dLen dCap) (hy : a.eval y = .slice ad l.length sCap) :
    (execOp a.eval ⟨dst, .call { callee := .builtin .copy, args := #[x, y], argTypes := #[T, S2] }, ty, pos, af, gd⟩).run P w =
      .ok (.value (goInt (Nat.min l.length dLen))) (w.setRow g (bytesA (cur.take off ++ l.take dLen ++ cur.drop (off + Nat.min l.length dLen)))) := by
  obtain ⟨i, hi, _, hs, _⟩ := hT.info
  have hsz : (P.info? e).map (·.size) = some 1 := by rw [hi]; simp [hs]
  have hlt : (l.take dLen).length = Nat.min l.length dLen := by rw [List.length_take]; exact Nat.min_comm _ _
  by_cases h0 : Nat.min l.length dLen = 0
  · have hrun := run_copy_none (P := P) w T S2 ty e (some ⟨g, off, none⟩) ad dLen dCap l.length sCap hT.und hsz h0
    have ht : l.take dLen = [] := List.eq_nil_of_length_eq_zero (by rw [hlt, h0])
    rw [h0, ht, List.append_nil, Nat.add_zero, List.take_append_drop, setRow_self w g _ t (0, 0) hg]
    unfold execOp
    simp [resolve, invoke, builtin, hx, hy, hrun, Result.andThen]
  · have hpos : l ≠ [] := by intro e; subst e; exact h0 (by simp)
    obtain ⟨b0, o0, rfl, _⟩ := hl 0 (l.head hpos) (by cases l <;> simp_all)
    have hrun := run_copy_row (P := P) w T S2 ty e g off dLen dCap ⟨b0, o0, none⟩ l.length sCap (bytesA cur) t ((l.take dLen).map bv) hT.und hsz hg (by rw [List.length_map, hlt]) (by
      intro j v hj
      rw [List.getElem?_map] at hj
      obtain ⟨x, hx, rfl⟩ := Option.map_eq_some_iff.1 hj
      obtain ⟨b1, o1, e1, hc⟩ := (hl.take dLen) j x hx
      cases e1
      rw [add_mk]; exact hc) (by have h1 : Nat.min l.length dLen ≤ dLen := Nat.min_le_right _ _; rw [List.length_map, hlt, size_bytesA]; omega) (by
      intro v hv
      obtain ⟨x, _, rfl⟩ := List.mem_map.1 hv
      rfl)
    rw [List.length_map, hlt] at hrun
    unfold execOp
    simp [resolve, invoke, builtin, hx, hy, hrun, Result.andThen]
    congr 1
    simp [bytesA]
theorem wc_copy_bytes (hT : ByteT P T e) {S2 : TypeId} {g off dLen dCap : Nat} {cur : List UInt8} {t : TypeId} (hg : w.heap[g]? = some (.cells (bytesA cur) t)) (hoff : off + dLen ≤ cur.length) {ad : Option Addr} {sCap : Nat} {l : List UInt8} (hl : BytesAt w ad l)
    (hx : a.eval x = .slice (some ⟨g, off, none⟩) dLen dCap) (hy : a.eval y = .slice ad l.length sCap)
    (h : wpList P ops Q rest (a.put dst (goInt (Nat.min l.length dLen))) (w.setRow g (bytesA (cur.take off ++ l.take dLen ++ cur.drop (off + Nat.min l.length dLen))))) :
    wpList P ops Q (⟨dst, .call { callee := .builtin .copy, args := #[x, y], argTypes := #[T, S2] }, ty, pos, af, none⟩ :: rest) a w :=
  wc_value rfl (exec_copy_bytes hT hg hoff hl hx hy) h
/-- 'append(nil, b...)' of bytes that are there. -/
theorem wc_append_bytes (hT : ByteT P T e) {ad : Addr} {sCap : Nat} {l : List UInt8} (hne : l ≠ []) (hlen : l.length ≤ 100000) (hl : BytesAt w (some ad) l) {ar : Array Operand} {ts : Array TypeId} (har : ar = #[x, y]) (hts : ts = #[T, T]) (hx : a.eval x = .slice none 0 0) (hy : a.eval y = .slice (some ad) l.length sCap)
    (h' : ∀ g cap w', w.heap.size ≤ g → l.length ≤ cap → cap ≤ 9223372036854775807 → BytesAt w' (some ⟨g, 0, none⟩) l → Tch [] w w' → wpList P ops Q rest (a.put dst (.slice (some ⟨g, 0, none⟩) l.length cap)) w') :
    wpList P ops Q (⟨dst, .call { callee := .builtin .append, args := ar, argTypes := ts }, ty, pos, af, none⟩ :: rest) a w := by
  subst har hts
  obtain ⟨i, h1, h2, h3, h4⟩ := hT.info
  refine wpList_append_own w rfl x y T rfl w.heap.size e i (.int .u8 0) 1 1 hT.und h1 h2 h3 h4 rfl (by decide) (.slice none 0 0) 0 [] hx (World.ownsRow_nil w w.heap.size e 1) ad l.length sCap (l.map bv) hy (by simp) ?_ ?_ ?_ ?_ (Nat.le_refl _) ?_
  · intro j u hj
    rw [List.getElem?_map] at hj
    obtain ⟨n, hn, rfl⟩ := Option.map_eq_some_iff.1 hj
    obtain ⟨b, o, e1, hc⟩ := hl j n hn
    cases e1
    rw [add_mk]; exact hc
  · intro u hu
    obtain ⟨n, _, rfl⟩ := List.mem_map.1 hu
    rfl
  · unfold maxLen; omega
  · omega
  · intro v' w' hown hgr _
    rw [Nat.zero_add, List.nil_append] at hown
    obtain ⟨hl', hv | ⟨k, cap', cur, rfl, hgk, hk, hc1, hc2, hc3, hc4⟩⟩ := hown
    · exfalso
      obtain ⟨_, h0⟩ := hv
      exact hne (List.eq_nil_of_length_eq_zero h0)
    · refine h' k cap' w' hgk hc1 (by unfold maxLen at hc2; exact hc2) (fun j x hj => ⟨k, 0, rfl, ?_⟩) (Tch.of_grown hgr (fun q hq => by simp [Value.ownBlock] at hq))
      rw [Nat.zero_add, cell_of_row w' k j _ _ _ hk]
      have hjl := (List.getElem?_eq_some_iff.1 hj).1
      have h3 : (cur.toList.take (l.length * 1))[j]? = (l.map bv)[j]? := by rw [hc4]
      rw [List.getElem?_take, if_pos (by omega), Array.getElem?_toList, List.getElem?_map, hj] at h3
      exact h3
end
end Go.Cib
