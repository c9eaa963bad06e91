/-
  Small laws, for any program: slices of bytes: what they read, make, copy.
-/
import Derived.Test.YtkjgbhpnlgcinaaGreatDoorMArrs
import Derived.Test.YtkjgbhpnlgcinaaGreatDoorMC
import Derived.Laws.CopyOwn
import Derived.Test.YtkjgbhpnlgcinaaGreatDoorRows
import Derived.Test.YtkjgbhpnlgcinaaGreatDoorMSum
namespace Go.Cib
open Go Go.RowKit
/-- A slice's head reads as these bytes. -/
def BytesAt (w : World) (a : Option Addr) (l : List UInt8) : Prop :=
  ∀ j x, l[j]? = some x → ∃ b o, a = some ⟨b, o, none⟩ ∧ w.cell? ⟨b, o + j, none⟩ = some (bv x)
theorem BytesAt.touch {w w' : World} {a : Option Addr} {l : List UInt8} {S : List Nat} (h : BytesAt w a l) (ht : Tch S w w') (hn : ∀ x, l ≠ [] → a = some x → x.block ∉ S) : BytesAt w' a l := by
  intro j x hj
  obtain ⟨b, o, ha, hc⟩ := h j x hj
  refine ⟨b, o, ha, ?_⟩
  have hb : b ∉ S := hn _ (by intro e; subst e; simp at hj) ha
  rw [World.cell?_of_block (w := w) (ht.block b (block_lt_of_cell hc) hb)]
  exact hc
theorem BytesAt.later {w w' : World} {a : Option Addr} {l : List UInt8} (h : BytesAt w a l) (ht : Tch [] w w') : BytesAt w' a l := h.touch ht (by simp)
theorem bytesAt_nil (w : World) (a : Option Addr) : BytesAt w a [] := fun j x h => by simp at h
/-- Part of a row of bytes. -/
theorem bytesAt_row {w : World} {b : Nat} {l : List UInt8} {e : TypeId} {fr : Nat × Nat} (h : w.heap[b]? = some (.cells (bytesA l) e fr)) (o : Nat) : BytesAt w (some ⟨b, o, none⟩) (l.drop o) := by
  intro j x hj
  refine ⟨b, o, rfl, ?_⟩
  rw [cell_of_row w b (o + j) _ _ _ h, bytesA_get]
  rw [List.getElem?_drop] at hj
  rw [hj]; rfl
theorem BytesAt.take {w : World} {a : Option Addr} {l : List UInt8} (h : BytesAt w a l) (n : Nat) : BytesAt w a (l.take n) := by
  intro j x hj
  rw [List.getElem?_take] at hj
  split at hj
  · exact h j x hj
  · cases hj
theorem BytesAt.drop {w : World} {b o : Nat} {l : List UInt8} (h : BytesAt w (some ⟨b, o, none⟩) l) (n : Nat) : BytesAt w (some ⟨b, o + n, none⟩) (l.drop n) := by
  intro j x hj
  rw [List.getElem?_drop] at hj
  obtain ⟨b', o', e, hc⟩ := h (n + j) x hj
  cases e
  exact ⟨b, o + n, rfl, by rw [Nat.add_assoc]; exact hc⟩

/-- T is a slice of bytes, e a byte. -/
structure ByteT (P : Program) (T e : TypeId) : Prop where
  und : P.underlying T = some (.slice e)
  info : ∃ i, P.info? e = some i ∧ i.zero = some (.int .u8 0) ∧ i.size = 1 ∧ i.bytes = 1
theorem ByteT.of {P : Program} {T e : TypeId} (h1 : P.underlying T = some (.slice e)) (h2 : (P.info? e).map (fun i => (i.zero, i.size, i.bytes)) = some (some (.int .u8 0), 1, 1)) : ByteT P T e := by
  obtain ⟨i, hi, hi2⟩ := Option.map_eq_some_iff.1 h2
  simp only [Prod.mk.injEq] at hi2
  exact ⟨h1, i, hi, hi2⟩
theorem rows_bytes (n : Nat) : rowsA (List.replicate n (Value.int .u8 0).cells) = bytesA (List.replicate n 0) := by
  apply Array.toList_inj.1
  simp only [rowsA, bytesA, List.map_replicate]
  have flat : ∀ k, (List.replicate k #[Value.int .u8 0]).flatMap Array.toList = List.replicate k (Value.int .u8 0) := by
    intro k
    induction k with
    | zero => rfl
    | succ k ih => rw [List.replicate_succ, List.replicate_succ, List.flatMap_cons, ih]; rfl
  exact flat n
section
variable {P : Program} {T e : TypeId} {ops : Array Oper} {rest : List Oper} {a : Act} {w : World} {Q : Exit → Act → World → Prop} {dst : Option Tmp} {ty : TypeId} {pos : String} {af : Array Edge} {x y : Operand} {gd : Option (Nat × Bool)}
theorem exec_makeBytes (hT : ByteT P T e) {n : Nat} (hn : n ≤ 281474976710656) (hx : a.eval x = .int .i64 n) (hy : a.eval y = .int .i64 n) :
    (execOp a.eval ⟨dst, .makeSlice T x y, ty, pos, af, gd⟩).run P w = .ok (.value (.slice (some ⟨w.heap.size, 0, none⟩) n n)) (w.alloc (.cells (bytesA (List.replicate n 0)) e)) := by
  obtain ⟨i, hi, hz, hs, hb⟩ := hT.info
  have hm := madeRows (Value.int .u8 0).cells n
  have hr := run_make (P := P) w T e i (.int .u8 0) hT.und hi hz .i64 .i64 n n (by omega) (by omega) (by rw [hb]; omega) (by omega)
  simp only [Int.toNat_natCast] at hr
  have hcs : (Value.int .u8 0).cells.size = i.size := by rw [hs]; rfl
  rw [← hcs, show madeCells (Value.int .u8 0).cells (n * (Value.int .u8 0).cells.size) = _ from hm, rows_bytes] at hr
  unfold execOp
  simp [hx, hy, hr]
theorem wc_makeBytes (hT : ByteT P T e) {n : Nat} (hn : n ≤ 281474976710656) (hx : a.eval x = .int .i64 n) (hy : a.eval y = .int .i64 n)
    (h : wpList P ops Q rest (a.put dst (.slice (some ⟨w.heap.size, 0, none⟩) n n)) (w.alloc (.cells (bytesA (List.replicate n 0)) e))) : wpList P ops Q (⟨dst, .makeSlice T x y, ty, pos, af, none⟩ :: rest) a w :=
  wc_value rfl (exec_makeBytes hT hn hx hy) h
/-- 'copy(d, s)' of bytes: d's block a row of bytes. -/
theorem exec_copy_bytes (hT : ByteT P T e) {S2 : TypeId} {g off dLen dCap : Nat} {cur : List UInt8} {t : TypeId} (hg : w.heap[g]? = some (.cells (bytesA cur) t)) (hoff : off + dLen ≤ cur.length) {ad : Option Addr} {sCap : Nat} {l : List UInt8} (hl : BytesAt w ad l)
    (hx : a.eval x = .slice (some ⟨g, off, none⟩) dLen dCap) (hy : a.eval y = .slice ad l.length sCap) :
    (execOp a.eval ⟨dst, .call { callee := .builtin .copy, args := #[x, y], argTypes := #[T, S2] }, ty, pos, af, gd⟩).run P w =
      .ok (.value (goInt (Nat.min l.length dLen))) (w.setRow g (bytesA (cur.take off ++ l.take dLen ++ cur.drop (off + Nat.min l.length dLen)))) := by
  obtain ⟨i, hi, _, hs, _⟩ := hT.info
  have hsz : (P.info? e).map (·.size) = some 1 := by rw [hi]; simp [hs]
  have hlt : (l.take dLen).length = Nat.min l.length dLen := by rw [List.length_take]; exact Nat.min_comm _ _
  by_cases h0 : Nat.min l.length dLen = 0
  · have hrun := run_copy_none (P := P) w T S2 ty e (some ⟨g, off, none⟩) ad dLen dCap l.length sCap hT.und hsz h0
    have ht : l.take dLen = [] := List.eq_nil_of_length_eq_zero (by rw [hlt, h0])
    rw [h0, ht, List.append_nil, Nat.add_zero, List.take_append_drop, setRow_self w g _ t (0, 0) hg]
    unfold execOp
    simp [resolve, invoke, builtin, hx, hy, hrun, Result.andThen]
  · have hpos : l ≠ [] := by intro e; subst e; exact h0 (by simp)
    obtain ⟨b0, o0, rfl, _⟩ := hl 0 (l.head hpos) (by cases l <;> simp_all)
    have hrun := run_copy_row (P := P) w T S2 ty e g off dLen dCap ⟨b0, o0, none⟩ l.length sCap (bytesA cur) t ((l.take dLen).map bv) hT.und hsz hg (by rw [List.length_map, hlt]) (by
      intro j v hj
      rw [List.getElem?_map] at hj
      obtain ⟨x, hx, rfl⟩ := Option.map_eq_some_iff.1 hj
      obtain ⟨b1, o1, e1, hc⟩ := (hl.take dLen) j x hx
      cases e1
      rw [add_mk]; exact hc) (by have h1 : Nat.min l.length dLen ≤ dLen := Nat.min_le_right _ _; rw [List.length_map, hlt, size_bytesA]; omega) (by
      intro v hv
      obtain ⟨x, _, rfl⟩ := List.mem_map.1 hv
      rfl)
    rw [List.length_map, hlt] at hrun
    unfold execOp
    simp [resolve, invoke, builtin, hx, hy, hrun, Result.andThen]
    congr 1
    simp [bytesA]
theorem wc_copy_bytes (hT : ByteT P T e) {S2 : TypeId} {g off dLen dCap : Nat} {cur : List UInt8} {t : TypeId} (hg : w.heap[g]? = some (.cells (bytesA cur) t)) (hoff : off + dLen ≤ cur.length) {ad : Option Addr} {sCap : Nat} {l : List UInt8} (hl : BytesAt w ad l)
    (hx : a.eval x = .slice (some ⟨g, off, none⟩) dLen dCap) (hy : a.eval y = .slice ad l.length sCap)
    (h : wpList P ops Q rest (a.put dst (goInt (Nat.min l.length dLen))) (w.setRow g (bytesA (cur.take off ++ l.take dLen ++ cur.drop (off + Nat.min l.length dLen))))) :
    wpList P ops Q (⟨dst, .call { callee := .builtin .copy, args := #[x, y], argTypes := #[T, S2] }, ty, pos, af, none⟩ :: rest) a w :=
  wc_value rfl (exec_copy_bytes hT hg hoff hl hx hy) h
/-- 'append(nil, b...)' of bytes that are there. -/
theorem wc_append_bytes (hT : ByteT P T e) {ad : Addr} {sCap : Nat} {l : List UInt8} (hne : l ≠ []) (hlen : l.length ≤ 100000) (hl : BytesAt w (some ad) l) {ar : Array Operand} {ts : Array TypeId} (har : ar = #[x, y]) (hts : ts = #[T, T]) (hx : a.eval x = .slice none 0 0) (hy : a.eval y = .slice (some ad) l.length sCap)
    (h' : ∀ g cap w', w.heap.size ≤ g → l.length ≤ cap → cap ≤ 9223372036854775807 → BytesAt w' (some ⟨g, 0, none⟩) l → Tch [] w w' → wpList P ops Q rest (a.put dst (.slice (some ⟨g, 0, none⟩) l.length cap)) w') :
    wpList P ops Q (⟨dst, .call { callee := .builtin .append, args := ar, argTypes := ts }, ty, pos, af, none⟩ :: rest) a w := by
  subst har hts
  obtain ⟨i, h1, h2, h3, h4⟩ := hT.info
  refine wpList_append_own w rfl x y T rfl w.heap.size e i (.int .u8 0) 1 1 hT.und h1 h2 h3 h4 rfl (by decide) (.slice none 0 0) 0 [] hx (World.ownsRow_nil w w.heap.size e 1) ad l.length sCap (l.map bv) hy (by simp) ?_ ?_ ?_ ?_ (Nat.le_refl _) ?_
  · intro j u hj
    rw [List.getElem?_map] at hj
    obtain ⟨n, hn, rfl⟩ := Option.map_eq_some_iff.1 hj
    obtain ⟨b, o, e1, hc⟩ := hl j n hn
    cases e1
    rw [add_mk]; exact hc
  · intro u hu
    obtain ⟨n, _, rfl⟩ := List.mem_map.1 hu
    rfl
  · unfold maxLen; omega
  · omega
  · intro v' w' hown hgr _
    rw [Nat.zero_add, List.nil_append] at hown
    obtain ⟨hl', hv | ⟨k, cap', cur, rfl, hgk, hk, hc1, hc2, hc3, hc4⟩⟩ := hown
    · exfalso
      obtain ⟨_, h0⟩ := hv
      exact hne (List.eq_nil_of_length_eq_zero h0)
    · refine h' k cap' w' hgk hc1 (by unfold maxLen at hc2; exact hc2) (fun j x hj => ⟨k, 0, rfl, ?_⟩) (Tch.of_grown hgr (fun q hq => by simp [Value.ownBlock] at hq))
      rw [Nat.zero_add, cell_of_row w' k j _ _ _ hk]
      have hjl := (List.getElem?_eq_some_iff.1 hj).1
      have h3 : (cur.toList.take (l.length * 1))[j]? = (l.map bv)[j]? := by rw [hc4]
      rw [List.getElem?_take, if_pos (by omega), Array.getElem?_toList, List.getElem?_map, hj] at h3
      exact h3
end
end Go.Cib
/-
  Numbers written behind bytes, and read: package octet.
-/
namespace Go.Proofs.YtkjgbhpnlgcinaaGreatDoor
open Go.RowKit Go.Cib

theorem byteT : ByteT Tryz.prog 160 5 := .of (by kernel_rfl) (by kernel_rfl)
/-- A slice of bytes that reads as l. -/
def BytesV (w : World) (v : Value) (l : List UInt8) : Prop := ∃ a cap, v = .slice a l.length cap ∧ BytesAt w a l
theorem BytesV.later {w w' : World} {v : Value} {l : List UInt8} (h : BytesV w v l) (ht : Tch [] w w') : BytesV w' v l := by
  obtain ⟨a, cap, h1, h2⟩ := h
  exact ⟨a, cap, h1, h2.later ht⟩
def BytesOut (w : World) (l : List UInt8) (e : Ending) (w' : World) : Prop := ∃ v, e = .returned v ∧ BytesV w' v l ∧ Tch [] w w'
/-- What the loop of put has laid: the last i bytes. -/
def putRow (l : List UInt8) (k n i : Nat) : List UInt8 := l ++ (List.replicate (k - i) 0 ++ be i n)
theorem length_putRow (l : List UInt8) {k n i : Nat} (h : i ≤ k) : (putRow l k n i).length = l.length + k := by simp [putRow]; omega
theorem putRow_zero (l : List UInt8) (k n : Nat) : putRow l k n 0 = l ++ List.replicate k 0 := by simp [putRow, be]
theorem putRow_full (l : List UInt8) (k n : Nat) : putRow l k n k = l ++ be k n := by simp [putRow]
theorem putRow_step (l : List UInt8) {k n i : Nat} (h : i < k) : (putRow l k n i).set (l.length + (k - 1 - i)) (UInt8.ofNat (n / 256 ^ i)) = putRow l k n (i + 1) := by
  unfold putRow
  rw [List.set_append_right _ _ (by omega), show l.length + (k - 1 - i) - l.length = k - 1 - i by omega, be_cons]
  congr 1
  rw [List.set_append_left _ _ (by simp; omega), show k - i = (k - 1 - i) + 1 by omega, List.replicate_succ']
  rw [List.set_append_right _ _ (by simp), List.length_replicate, Nat.sub_self, List.set_cons_zero, show k - (i + 1) = k - 1 - i by omega]
  simp

set_option maxRecDepth 20000 in
set_option maxHeartbeats 1000000 in
theorem put_u32 {w : World} {a : Option Addr} {cap : Nat} {l : List UInt8} (hl : BytesAt w a l) (hlen : l.length ≤ 100000) (n : Nat) (hn : n < 4294967296) (k : Nat) (hk : k ≤ 8) :
    Calls Tryz.prog 142 #[.slice a l.length cap, .int .u32 n, .int .i64 k] w (BytesOut w (l ++ be k n)) := by
  obtain ⟨m, hm⟩ : ∃ m, l.length = m := ⟨_, rfl⟩
  rw [hm] at hlen ⊢
  have ht : Tch [] w (w.alloc (.cells (bytesA (List.replicate (m + k) 0)) 5)) := (Tch.refl _ _).alloc _
  have HT := Lib.hid ht
  have HL := Lib.hid (hl.later ht)
  have HM := Lib.hid hm
  clear hl ht hm
  have hg : (w.alloc (.cells (bytesA (List.replicate (m + k) 0)) 5)).heap[w.heap.size]? = some (.cells (bytesA (List.replicate (m + k) 0)) 5) := heap_alloc_new _ _
  have HG := Lib.hid hg
  clear hg
  have e1 : ((m : Int) + (k : Int)) = ((m + k : Nat) : Int) := rfl
  have MAKE : Hid (∀ {ops : Array Oper} {rest : List Oper} {a : Act} {Q : Exit → Act → World → Prop} {dst : Option Tmp} {ty : TypeId} {pos : String} {af : Array Edge} {x : Operand}, a.eval x = .int .i64 ((m : Int) + (k : Int)) →
      wpList Tryz.prog ops Q rest (a.put dst (.slice (some ⟨w.heap.size, 0, none⟩) (m + k) (m + k))) (w.alloc (.cells (bytesA (List.replicate (m + k) 0)) 5)) → wpList Tryz.prog ops Q (⟨dst, .makeSlice 160 x x, ty, pos, af, none⟩ :: rest) a w) := by
    intro ops rest a Q dst ty pos af x hx h
    exact wc_makeBytes byteT (by omega) hx hx h
  have COPY : Hid (∀ {ops : Array Oper} {rest : List Oper} {a2 : Act} {Q : Exit → Act → World → Prop} {dst : Option Tmp} {ty : TypeId} {pos : String} {af : Array Edge} {x y : Operand}, a2.eval x = .slice (some ⟨w.heap.size, 0, none⟩) (m + k) (m + k) → a2.eval y = .slice a m cap →
      (∀ w', w'.heap[w.heap.size]? = some (.cells (bytesA (putRow l k n 0)) 5) → Tch [] w w' → wpList Tryz.prog ops Q rest (a2.put dst (goInt m)) w') → wpList Tryz.prog ops Q (⟨dst, .call { callee := .builtin .copy, args := #[x, y], argTypes := #[160, 160] }, ty, pos, af, none⟩ :: rest) a2 (w.alloc (.cells (bytesA (List.replicate (m + k) 0)) 5))) := by
    intro ops rest a2 Q dst ty pos af x y hx hy h
    have hm := HM.out
    subst hm
    have hmin : Nat.min l.length (l.length + k) = l.length := Nat.min_eq_left (by omega)
    refine wc_copy_bytes byteT HG.out (by simp) HL.out hx hy ?_
    rw [hmin]
    refine h _ ?_ (tch_own HT.out ((Tch.refl [w.heap.size] _).setRow (.inl (by simp)) _) (by simp))
    rw [setRow_heap _ _ _ _ _ _ HG.out, putRow_zero]
    congr 3
    simp
    exact List.take_of_length_le (by omega)
  clear e1
  go_enter Tryz.func142, Tryz.ntmps142
  go_wp2_with (first | ((with_reducible apply MAKE.out); exact rfl; go_frame) | ((with_reducible apply COPY.out); exact rfl; exact rfl; intro w2 hg2 ht2; go_frame; have HG2 := Lib.hid hg2; have HT2 := Lib.hid ht2; clear hg2 ht2))
  have HGE : Hid (w.heap.size ≤ w.heap.size) := Nat.le_refl _
  generalize hgg : w.heap.size = g at HG2 ⊢
  rw [hgg] at HGE
  have HGE : Hid (w.heap.size ≤ g) := by show _ ≤ _; omega
  clear hgg MAKE COPY HG
  go_loopg [1, 8, 18] k (fun q x _ i wr => ∃ j p, OnAt k i q j ∧ x = .int .u32 (p : Nat) ∧ p = n / 256 ^ j ∧ wr.heap[g]? = some (.cells (bytesA (putRow l k n j)) 5) ∧ Tch [] w wr)
  case atStart => exact ⟨0, n, ⟨Nat.zero_le _, rfl, rfl⟩, rfl, by simp, HG2.out, HT2.out⟩
  case round =>
    obtain ⟨j, p, ⟨hj, rfl, rfl⟩, rfl, hp, hg3, ht3⟩ := hrel
    have HP := Lib.hid hp
    have HG3 := Lib.hid hg3
    have HT3 := Lib.hid ht3
    have hpb : p < 4294967296 := by rw [hp]; exact Nat.lt_of_le_of_lt (Nat.div_le_self _ _) hn
    clear hg3 ht3 hp HG2 HT2
    by_cases hjk : j < k
    · have hlr : (putRow l k n j).length = m + k := by rw [length_putRow l hj, HM.out]
      have cB : wr.cell? ⟨g, m + k - 1 - j, none⟩ = some (bv ((putRow l k n j).getD (m + k - 1 - j) 0)) := by
        rw [cell_of_row wr g _ _ _ _ HG3.out, bytesA_get, List.getD_eq_getElem?_getD, List.getElem?_eq_getElem (by omega)]
        rfl
      have fB := frozen_of_row wr g (m + k - 1 - j) _ _ HG3.out
      have hstep : (bytesA (putRow l k n j)).setIfInBounds (m + k - 1 - j) (.int .u8 ((p : Int) % 256)) = bytesA (putRow l k n (j + 1)) := by
        have e : Value.int .u8 ((p : Int) % 256) = bv (UInt8.ofNat (n / 256 ^ j)) := by
          unfold bv; rw [toNat_ofNat8, ← HP.out]; rfl
        have hm := HM.out
        rw [e, bytesA_set, ← putRow_step l hjk, show l.length + (k - 1 - j) = m + k - 1 - j by omega]
      have HST := Lib.hid hstep
      clear hlr hstep
      go_wp2_with fail
      go_roundg (k - (j + 1))
      case measure => omega
      case rel =>
        refine ⟨j + 1, p / 256, ⟨by omega, by go_num, rfl⟩, by go_num, ?_, ?_, HT3.out.setCell (.inr HGE.out) _⟩
        · rw [HP.out, Nat.div_div_eq_div_mul, Nat.pow_succ]
        · rw [heap_setCell_cells HG3.out, HST.out]
    · go_wp2_with fail
      go_ret
      have hjk2 : j = k := by omega
      have hg3 := HG3.out
      rw [hjk2, putRow_full] at hg3
      refine ⟨.slice (some ⟨g, 0, none⟩) (m + k) (m + k), rfl, ⟨some ⟨g, 0, none⟩, m + k, ?_, ?_⟩, HT3.out⟩
      · rw [List.length_append, length_be, HM.out]
      · have := bytesAt_row hg3 0
        simpa using this

set_option maxRecDepth 20000 in
set_option maxHeartbeats 1000000 in
theorem put_u64 {w : World} {a : Option Addr} {cap : Nat} {l : List UInt8} (hl : BytesAt w a l) (hlen : l.length ≤ 100000) (n : Nat) (hn : n < 18446744073709551616) (k : Nat) (hk : k ≤ 8) :
    Calls Tryz.prog 160 #[.slice a l.length cap, .int .u64 n, .int .i64 k] w (BytesOut w (l ++ be k n)) := by
  obtain ⟨m, hm⟩ : ∃ m, l.length = m := ⟨_, rfl⟩
  rw [hm] at hlen ⊢
  have ht : Tch [] w (w.alloc (.cells (bytesA (List.replicate (m + k) 0)) 5)) := (Tch.refl _ _).alloc _
  have HT := Lib.hid ht
  have HL := Lib.hid (hl.later ht)
  have HM := Lib.hid hm
  clear hl ht hm
  have hg : (w.alloc (.cells (bytesA (List.replicate (m + k) 0)) 5)).heap[w.heap.size]? = some (.cells (bytesA (List.replicate (m + k) 0)) 5) := heap_alloc_new _ _
  have HG := Lib.hid hg
  clear hg
  have e1 : ((m : Int) + (k : Int)) = ((m + k : Nat) : Int) := rfl
  have MAKE : Hid (∀ {ops : Array Oper} {rest : List Oper} {a : Act} {Q : Exit → Act → World → Prop} {dst : Option Tmp} {ty : TypeId} {pos : String} {af : Array Edge} {x : Operand}, a.eval x = .int .i64 ((m : Int) + (k : Int)) →
      wpList Tryz.prog ops Q rest (a.put dst (.slice (some ⟨w.heap.size, 0, none⟩) (m + k) (m + k))) (w.alloc (.cells (bytesA (List.replicate (m + k) 0)) 5)) → wpList Tryz.prog ops Q (⟨dst, .makeSlice 160 x x, ty, pos, af, none⟩ :: rest) a w) := by
    intro ops rest a Q dst ty pos af x hx h
    exact wc_makeBytes byteT (by omega) hx hx h
  have COPY : Hid (∀ {ops : Array Oper} {rest : List Oper} {a2 : Act} {Q : Exit → Act → World → Prop} {dst : Option Tmp} {ty : TypeId} {pos : String} {af : Array Edge} {x y : Operand}, a2.eval x = .slice (some ⟨w.heap.size, 0, none⟩) (m + k) (m + k) → a2.eval y = .slice a m cap →
      (∀ w', w'.heap[w.heap.size]? = some (.cells (bytesA (putRow l k n 0)) 5) → Tch [] w w' → wpList Tryz.prog ops Q rest (a2.put dst (goInt m)) w') → wpList Tryz.prog ops Q (⟨dst, .call { callee := .builtin .copy, args := #[x, y], argTypes := #[160, 160] }, ty, pos, af, none⟩ :: rest) a2 (w.alloc (.cells (bytesA (List.replicate (m + k) 0)) 5))) := by
    intro ops rest a2 Q dst ty pos af x y hx hy h
    have hm := HM.out
    subst hm
    have hmin : Nat.min l.length (l.length + k) = l.length := Nat.min_eq_left (by omega)
    refine wc_copy_bytes byteT HG.out (by simp) HL.out hx hy ?_
    rw [hmin]
    refine h _ ?_ (tch_own HT.out ((Tch.refl [w.heap.size] _).setRow (.inl (by simp)) _) (by simp))
    rw [setRow_heap _ _ _ _ _ _ HG.out, putRow_zero]
    congr 3
    simp
    exact List.take_of_length_le (by omega)
  clear e1
  go_enter Tryz.func160, Tryz.ntmps160
  go_wp2_with (first | ((with_reducible apply MAKE.out); exact rfl; go_frame) | ((with_reducible apply COPY.out); exact rfl; exact rfl; intro w2 hg2 ht2; go_frame; have HG2 := Lib.hid hg2; have HT2 := Lib.hid ht2; clear hg2 ht2))
  have HGE : Hid (w.heap.size ≤ w.heap.size) := Nat.le_refl _
  generalize hgg : w.heap.size = g at HG2 ⊢
  rw [hgg] at HGE
  have HGE : Hid (w.heap.size ≤ g) := by show _ ≤ _; omega
  clear hgg MAKE COPY HG
  go_loopg [1, 8, 18] k (fun q x _ i wr => ∃ j p, OnAt k i q j ∧ x = .int .u64 (p : Nat) ∧ p = n / 256 ^ j ∧ wr.heap[g]? = some (.cells (bytesA (putRow l k n j)) 5) ∧ Tch [] w wr)
  case atStart => exact ⟨0, n, ⟨Nat.zero_le _, rfl, rfl⟩, rfl, by simp, HG2.out, HT2.out⟩
  case round =>
    obtain ⟨j, p, ⟨hj, rfl, rfl⟩, rfl, hp, hg3, ht3⟩ := hrel
    have HP := Lib.hid hp
    have HG3 := Lib.hid hg3
    have HT3 := Lib.hid ht3
    have hpb : p < 18446744073709551616 := by rw [hp]; exact Nat.lt_of_le_of_lt (Nat.div_le_self _ _) hn
    clear hg3 ht3 hp HG2 HT2
    by_cases hjk : j < k
    · have hlr : (putRow l k n j).length = m + k := by rw [length_putRow l hj, HM.out]
      have cB : wr.cell? ⟨g, m + k - 1 - j, none⟩ = some (bv ((putRow l k n j).getD (m + k - 1 - j) 0)) := by
        rw [cell_of_row wr g _ _ _ _ HG3.out, bytesA_get, List.getD_eq_getElem?_getD, List.getElem?_eq_getElem (by omega)]
        rfl
      have fB := frozen_of_row wr g (m + k - 1 - j) _ _ HG3.out
      have hstep : (bytesA (putRow l k n j)).setIfInBounds (m + k - 1 - j) (.int .u8 ((p : Int) % 256)) = bytesA (putRow l k n (j + 1)) := by
        have e : Value.int .u8 ((p : Int) % 256) = bv (UInt8.ofNat (n / 256 ^ j)) := by
          unfold bv; rw [toNat_ofNat8, ← HP.out]; rfl
        have hm := HM.out
        rw [e, bytesA_set, ← putRow_step l hjk, show l.length + (k - 1 - j) = m + k - 1 - j by omega]
      have HST := Lib.hid hstep
      clear hlr hstep
      go_wp2_with fail
      go_roundg (k - (j + 1))
      case measure => omega
      case rel =>
        refine ⟨j + 1, p / 256, ⟨by omega, by go_num, rfl⟩, by go_num, ?_, ?_, HT3.out.setCell (.inr HGE.out) _⟩
        · rw [HP.out, Nat.div_div_eq_div_mul, Nat.pow_succ]
        · rw [heap_setCell_cells HG3.out, HST.out]
    · go_wp2_with fail
      go_ret
      have hjk2 : j = k := by omega
      have hg3 := HG3.out
      rw [hjk2, putRow_full] at hg3
      refine ⟨.slice (some ⟨g, 0, none⟩) (m + k) (m + k), rfl, ⟨some ⟨g, 0, none⟩, m + k, ?_, ?_⟩, HT3.out⟩
      · rw [List.length_append, length_be, HM.out]
      · have := bytesAt_row hg3 0
        simpa using this

theorem put32_any {w : World} {a : Option Addr} {cap : Nat} {l : List UInt8} (hl : BytesAt w a l) (hlen : l.length ≤ 100000) (n : Nat) (hn : n < 4294967296) :
    Calls Tryz.prog 112 #[.slice a l.length cap, .int .u32 n] w (BytesOut w (l ++ be 4 n)) := by
  have HC := Lib.hid (put_u32 (cap := cap) hl hlen n hn 4 (by omega))
  clear hl
  generalize l.length = m at *
  go_enter Tryz.func112, Tryz.ntmps112
  go_wp2_with fail
  refine HC.out.mono ?_
  rintro e w' ⟨v, rfl, h1, h2⟩
  have H1 := Lib.hid h1
  have H2 := Lib.hid h2
  clear h1 h2
  go_wp2_with fail
  go_ret
  exact ⟨v, rfl, H1.out, H2.out⟩

theorem put64_any {w : World} {a : Option Addr} {cap : Nat} {l : List UInt8} (hl : BytesAt w a l) (hlen : l.length ≤ 100000) (n : Nat) (hn : n < 18446744073709551616) :
    Calls Tryz.prog 143 #[.slice a l.length cap, .int .u64 n] w (BytesOut w (l ++ be 8 n)) := by
  have HC := Lib.hid (put_u64 (cap := cap) hl hlen n hn 8 (by omega))
  clear hl
  generalize l.length = m at *
  go_enter Tryz.func143, Tryz.ntmps143
  go_wp2_with fail
  refine HC.out.mono ?_
  rintro e w' ⟨v, rfl, h1, h2⟩
  have H1 := Lib.hid h1
  have H2 := Lib.hid h2
  clear h1 h2
  go_wp2_with fail
  go_ret
  exact ⟨v, rfl, H1.out, H2.out⟩
end Go.Proofs.YtkjgbhpnlgcinaaGreatDoor
/-
  Bytes read one thing behind the other: package octet's Reader.
-/
namespace Go.Proofs.YtkjgbhpnlgcinaaGreatDoor
open Go.RowKit Go.Cib

/-- Block r holds a reader of l that stands at at_. -/
structure ReaderAt (w : World) (r b o cap : Nat) (l : List UInt8) (at_ : Nat) : Prop where
  hr : w.heap[r]? = some (.cells #[.slice (some ⟨b, o, none⟩) l.length cap, .int .i64 at_, .int .i64 0] 185)
  hb : BytesAt w (some ⟨b, o, none⟩) l
  ne : b ≠ r
  hc : l.length ≤ cap
  hl : l.length ≤ 100000
  hcl : cap ≤ 9223372036854775807

theorem ReaderAt.touch {w w' : World} {r b o cap : Nat} {l : List UInt8} {at_ : Nat} {S : List Nat} (h : ReaderAt w r b o cap l at_) (ht : Tch S w w') (h1 : r ∉ S) (h2 : b ∉ S) : ReaderAt w' r b o cap l at_ :=
  ⟨ht.heap h.hr h1, h.hb.touch ht (by intro x _ hx; cases hx; exact h2), h.ne, h.hc, h.hl, h.hcl⟩
def ReaderOut (w : World) (l : List UInt8) (e : Ending) (w' : World) : Prop := ∃ r b o cap, e = .returned (.pointer (some ⟨r, 0, none⟩)) ∧ ReaderAt w' r b o cap l 0 ∧ w.heap.size ≤ r ∧ Tch [] w w'

set_option maxRecDepth 20000 in
set_option maxHeartbeats 1000000 in
theorem octRead_any {w : World} {ad : Addr} {cap : Nat} {l : List UInt8} (hl : BytesAt w (some ad) l) (hne : l ≠ []) (hlen : l.length ≤ 100000) :
    Calls Tryz.prog 110 #[.slice (some ad) l.length cap] w (ReaderOut w l) := by
  have HL := Lib.hid hl
  have HNE := Lib.hid hne
  have HLEN := Lib.hid hlen
  clear hl hne hlen
  go_enter Tryz.func110, Tryz.ntmps110
  go_wp2_with (at_builtin; refine wc_append_bytes (x := .const (.slice none 0 0)) (y := .tmp 3) byteT HNE.out HLEN.out HL.out rfl rfl rfl rfl ?_; intro g c w2 hg hc hcm hb ht; go_frame; have HG := Lib.hid hg; have HCM := Lib.hid hcm; have HC := Lib.hid hc; have HB := Lib.hid hb; have HT := Lib.hid ht; clear hg hc hcm hb ht)
  go_ret
  have hb : BytesAt (w2.alloc (.cells #[.slice (some ⟨g, 0, none⟩) l.length c, .int .i64 0, .int .i64 0] 185)) (some ⟨g, 0, none⟩) l := HB.out.later ((Tch.refl [] _).alloc _)
  have glt : g < w2.heap.size := by
    obtain ⟨x, hx⟩ : ∃ x, l[0]? = some x := ⟨l.head HNE.out, by have := HNE.out; cases l <;> simp_all⟩
    obtain ⟨b', o', e, hc⟩ := HB.out 0 x hx
    cases e
    exact block_lt_of_cell hc
  exact ⟨w2.heap.size, g, 0, c, rfl, ⟨heap_alloc_new _ _, hb, by omega, HC.out, HLEN.out, HCM.out⟩, HT.out.size, HT.out.alloc _⟩

set_option maxRecDepth 20000 in
set_option maxHeartbeats 1000000 in
theorem take_any {w : World} {r b o cap : Nat} {l : List UInt8} {at_ : Nat} (h : ReaderAt w r b o cap l at_) (n : Nat) (hn1 : 1 ≤ n) (hn : at_ + n ≤ l.length) :
    Calls Tryz.prog 159 #[.pointer (some ⟨r, 0, none⟩), .int .i64 n] w fun e w' => e = .returned (.slice (some ⟨b, o + at_, none⟩) n (cap - at_)) ∧ ReaderAt w' r b o cap l (at_ + n) ∧ Tch [r] w w' := by
  have c0 := cell_of_row w r 0 _ _ _ h.hr
  have c1 := cell_of_row w r 1 _ _ _ h.hr
  have c2 := cell_of_row w r 2 _ _ _ h.hr
  have f1 := frozen_of_row w r 1 _ _ h.hr
  simp only [List.getElem?_toArray, List.getElem?_cons_zero, List.getElem?_cons_succ] at c0 c1 c2
  have hc := h.hc
  have hll := h.hl
  have hcl := h.hcl
  have H := Lib.hid h
  clear h
  obtain ⟨m, hm⟩ : ∃ m, l.length = m := ⟨_, rfl⟩
  rw [hm] at c0 hn hc hll
  have HM := Lib.hid hm
  clear hm
  have g1 : decide ((m : Int) - (at_ : Int) < (n : Int)) = false := by rw [decide_eq_false_iff_not]; omega
  have hac : at_ < cap := by omega
  go_enter Tryz.func159, Tryz.ntmps159
  go_wp2_with fail
  (refine wp_region_quiet_lit (by kernel_rfl) (by kernel_rfl) ?_; (repeat (first | fail | go_big_quiet_step (fail))); refine wpQuiet_nil ?_; intro _ hw'; obtain ⟨nq, hw''⟩ := hw'; subst hw'')
  clear g1
  go_wp2_with fail
  have e1 : (((at_ : Int) + (n : Int))) = ((at_ + n : Nat) : Int) := rfl
  rw [e1]
  obtain ⟨w1, hw1⟩ : ∃ w1, (w.drewN nq).setCell ⟨r, 1, none⟩ (.int .i64 ((at_ + n : Nat) : Int)) = w1 := ⟨_, rfl⟩
  rw [hw1]
  have t1 : Tch [r] w w1 := by rw [← hw1]; exact ((tch_drewN w nq).mono (by simp)).setCell (by simp) _
  have hR : ReaderAt w1 r b o cap l (at_ + n) := by
    refine ⟨?_, H.out.hb.touch t1 (by intro x _ hx; cases hx; simpa using H.out.ne), H.out.ne, H.out.hc, H.out.hl, H.out.hcl⟩
    rw [← hw1, heap_setCell_cells ((tch_drewN w nq).heap H.out.hr (by simp))]
    rfl
  have HR := Lib.hid hR
  have T1 := Lib.hid t1
  have c0' := cell_of_row w1 r 0 _ _ _ HR.out.hr
  have c1' := cell_of_row w1 r 1 _ _ _ HR.out.hr
  simp only [List.getElem?_toArray, List.getElem?_cons_zero, List.getElem?_cons_succ, HM.out] at c0' c1'
  clear hw1 hR t1 e1 c0 c1 c2 f1
  (refine wp_region_quiet_lit (by kernel_rfl) (by kernel_rfl) ?_; (repeat (first | fail | go_big_quiet_step (fail))); refine wpQuiet_nil ?_; intro _ hw'; obtain ⟨nq, hw''⟩ := hw'; subst hw'')
  go_wp2_with fail
  go_ret
  have en : at_ + n - at_ = n := by omega
  exact ⟨by rw [en]; rfl, HR.out.touch (tch_drewN _ _) (by simp) (by simp), T1.out.trans ((tch_drewN _ _).mono (by simp))⟩

set_option maxRecDepth 20000 in
set_option maxHeartbeats 1000000 in
theorem number_any {w : World} {r b o cap : Nat} {l : List UInt8} {at_ : Nat} (h : ReaderAt w r b o cap l at_) (n : Nat) (hn1 : 1 ≤ n) (hn8 : n ≤ 8) (hn : at_ + n ≤ l.length) :
    Calls Tryz.prog 141 #[.pointer (some ⟨r, 0, none⟩), .int .i64 n] w fun e w' => e = .returned (.int .u64 (beVal ((l.drop at_).take n))) ∧ ReaderAt w' r b o cap l (at_ + n) ∧ Tch [r] w w' := by
  have H := Lib.hid h
  have HN := Lib.hid hn
  clear h hn
  go_enter Tryz.func141, Tryz.ntmps141
  go_wp2_with (go_at_call 159; refine (take_any H.out n hn1 HN.out).mono ?_; rintro e w1 ⟨rfl, hq1, hq2⟩; have H1 := Lib.hid hq1; have T1 := Lib.hid hq2; clear hq1 hq2)
  have hlq : ((l.drop at_).take n).length = n := by rw [List.length_take, List.length_drop]; have := HN.out; omega
  have hat : ∀ j : Nat, j < n → ∃ x, ((l.drop at_).take n)[j]? = some x ∧ w1.cell? ⟨b, o + at_ + j, none⟩ = some (bv x) := by
    intro j hj
    have hx := List.getElem?_eq_getElem (l := (l.drop at_).take n) (i := j) (by omega)
    obtain ⟨b', o', e, hc⟩ := ((H1.out.hb.drop at_).take n) j _ hx
    cases e
    exact ⟨_, hx, hc⟩
  have HAT := Lib.hid hat
  have HLQ := Lib.hid hlq
  clear hat hlq
  generalize hqq : (l.drop at_).take n = q at *
  have HQQ := Lib.hid hqq
  clear hqq
  go_loopg [4, 6, 11] n (fun k v _ i wr => ∃ j p, OnAt n i k j ∧ v = .int .u64 (p : Nat) ∧ p = beVal (q.take j) ∧ w1 = wr)
  case atStart => exact ⟨0, 0, ⟨Nat.zero_le _, rfl, rfl⟩, rfl, rfl, rfl⟩
  case round =>
    obtain ⟨j, p, ⟨hj, rfl, rfl⟩, rfl, hp, rfl⟩ := hrel
    have hpb : p < 256 ^ j := by
      rw [hp]
      have := beVal_lt (q.take j)
      have hl : (q.take j).length = j := by rw [List.length_take]; have := HLQ.out; omega
      rwa [hl] at this
    have HP := Lib.hid hp
    clear hp
    by_cases hjn : j < n
    · obtain ⟨x, hx, hc⟩ := HAT.out j hjn
      have hp56 : p < 72057594037927936 := Nat.lt_of_lt_of_le hpb (Nat.pow_le_pow_right (by omega) (show j ≤ 7 by omega))
      have hxb := x.toNat_lt
      have HX := Lib.hid hx
      unfold bv at hc
      clear hx hpb
      have hor : bits BinOp.or IntKind.u64 ((p : Int) * 256) ((x.toNat : Nat) : Int) = ((p * 256 + x.toNat : Nat) : Int) := by
        have h1 := u64_or_nat (p * 256) x.toNat (by omega) (by omega)
        rw [nat_join 8 (p * 256) x.toNat (by omega) (by omega)] at h1
        exact h1
      have HOR := Lib.hid hor
      clear hor
      go_wp2_with fail
      go_roundg (n - (j + 1))
      case measure => omega
      case rel =>
        refine ⟨j + 1, p * 256 + x.toNat, ⟨by omega, by go_num, rfl⟩, by rw [HOR.out], ?_, rfl⟩
        have hx : q[j]? = some x := HX.out
        rw [List.take_add_one, hx, Option.toList_some, beVal_snoc, ← HP.out]
    · have hq : q.take j = q := List.take_of_length_le (by have := HLQ.out; omega)
      have hp2 : p = beVal q := by rw [HP.out, hq]
      have HP2 := Lib.hid hp2
      clear hpb HP hq hp2
      go_wp2_with fail
      go_ret
      exact ⟨by rw [HQQ.out, ← HP2.out]; rfl, H1.out, T1.out⟩

set_option maxRecDepth 20000 in
theorem octU8_any {w : World} {r b o cap : Nat} {l : List UInt8} {at_ : Nat} (h : ReaderAt w r b o cap l at_) (hn : at_ + 1 ≤ l.length) :
    Calls Tryz.prog 138 #[.pointer (some ⟨r, 0, none⟩)] w fun e w' => e = .returned (.int .u8 (l.getD at_ 0).toNat) ∧ ReaderAt w' r b o cap l (at_ + 1) ∧ Tch [r] w w' := by
  have HC := Lib.hid (number_any h 1 (by omega) (by omega) hn)
  have hv : beVal ((l.drop at_).take 1) = (l.getD at_ 0).toNat := by
    rw [List.drop_eq_getElem_cons (by omega), List.take_succ_cons, List.take_zero]
    simp [beVal, List.getD_eq_getElem?_getD, List.getElem?_eq_getElem (show at_ < l.length by omega)]
  have HV := Lib.hid hv
  have hb := (l.getD at_ 0).toNat_lt
  generalize (l.getD at_ 0).toNat = v at *
  clear h hv
  go_enter Tryz.func138, Tryz.ntmps138
  go_wp2_with (go_at_call 141; refine HC.out.mono ?_; rintro e w1 ⟨rfl, hq1, hq2⟩; rw [HV.out]; have H1 := Lib.hid hq1; have T1 := Lib.hid hq2; clear hq1 hq2)
  go_ret
  refine ⟨?_, H1.out, T1.out⟩
  have : (v : Int) % 256 = v := by omega
  simp

set_option maxRecDepth 20000 in
theorem octU32_any {w : World} {r b o cap : Nat} {l : List UInt8} {at_ : Nat} (h : ReaderAt w r b o cap l at_) (hn : at_ + 4 ≤ l.length) :
    Calls Tryz.prog 111 #[.pointer (some ⟨r, 0, none⟩)] w fun e w' => e = .returned (.int .u32 (beVal ((l.drop at_).take 4))) ∧ ReaderAt w' r b o cap l (at_ + 4) ∧ Tch [r] w w' := by
  have HC := Lib.hid (number_any h 4 (by omega) (by omega) hn)
  have hb := beVal_lt ((l.drop at_).take 4)
  have hlq : ((l.drop at_).take 4).length = 4 := by rw [List.length_take, List.length_drop]; omega
  rw [hlq] at hb
  have hb : beVal ((l.drop at_).take 4) < 4294967296 := hb
  generalize beVal ((l.drop at_).take 4) = v at *
  clear h hlq
  go_enter Tryz.func111, Tryz.ntmps111
  go_wp2_with (go_at_call 141; refine HC.out.mono ?_; rintro e w1 ⟨rfl, hq1, hq2⟩; have H1 := Lib.hid hq1; have T1 := Lib.hid hq2; clear hq1 hq2)
  go_ret
  exact ⟨by first | rfl | (have : (v : Int) % 4294967296 = v := by omega; simp [this]), H1.out, T1.out⟩

set_option maxRecDepth 20000 in
theorem octU64_any {w : World} {r b o cap : Nat} {l : List UInt8} {at_ : Nat} (h : ReaderAt w r b o cap l at_) (hn : at_ + 8 ≤ l.length) :
    Calls Tryz.prog 140 #[.pointer (some ⟨r, 0, none⟩)] w fun e w' => e = .returned (.int .u64 (beVal ((l.drop at_).take 8))) ∧ ReaderAt w' r b o cap l (at_ + 8) ∧ Tch [r] w w' := by
  have HC := Lib.hid (number_any h 8 (by omega) (by omega) hn)
  have hb := beVal_lt ((l.drop at_).take 8)
  have hlq : ((l.drop at_).take 8).length = 8 := by rw [List.length_take, List.length_drop]; omega
  rw [hlq] at hb
  have hb : beVal ((l.drop at_).take 8) < 18446744073709551616 := hb
  generalize beVal ((l.drop at_).take 8) = v at *
  clear h hlq
  go_enter Tryz.func140, Tryz.ntmps140
  go_wp2_with (go_at_call 141; refine HC.out.mono ?_; rintro e w1 ⟨rfl, hq1, hq2⟩; have H1 := Lib.hid hq1; have T1 := Lib.hid hq2; clear hq1 hq2)
  go_ret
  exact ⟨by first | rfl | (have : (v : Int) % 18446744073709551616 = v := by omega; simp [this]), H1.out, T1.out⟩
end Go.Proofs.YtkjgbhpnlgcinaaGreatDoor
/-
  Bytes read and handed on: Raw.
-/
namespace Go.Proofs.YtkjgbhpnlgcinaaGreatDoor
open Go.RowKit Go.Cib

set_option maxRecDepth 20000 in
set_option maxHeartbeats 1000000 in
theorem raw_any {w : World} {r b o cap : Nat} {l : List UInt8} {at_ : Nat} (h : ReaderAt w r b o cap l at_) (n : Nat) (hn1 : 1 ≤ n) (hn : at_ + n ≤ l.length) :
    Calls Tryz.prog 139 #[.pointer (some ⟨r, 0, none⟩), .int .i64 n] w fun e w' => (∃ v, e = .returned v) ∧ ReaderAt w' r b o cap l (at_ + n) ∧ Tch [r] w w' := by
  have H := Lib.hid h
  have HN := Lib.hid hn
  have hll := h.hl
  have hlq : ((l.drop at_).take n).length = n := by rw [List.length_take, List.length_drop]; omega
  have hne : (l.drop at_).take n ≠ [] := by intro e; rw [e] at hlq; simp at hlq; omega
  have hblt : b < w.heap.size ∧ r < w.heap.size := by
    refine ⟨?_, lt_of_heap h.hr⟩
    obtain ⟨b', o', e, hc⟩ := h.hb 0 (l[0]'(by omega)) (List.getElem?_eq_getElem _)
    cases e
    exact block_lt_of_cell hc
  obtain ⟨q, hq⟩ : ∃ q, (l.drop at_).take n = q := ⟨_, rfl⟩
  rw [hq] at hlq hne
  subst hlq
  have hq5 : q.length ≤ 100000 := by omega
  have HQ := Lib.hid hq
  have HNE := Lib.hid hne
  clear h hn hne hq
  go_enter Tryz.func139, Tryz.ntmps139
  go_wp2_with fail
  refine (take_any H.out q.length hn1 HN.out).mono ?_
  rintro e w1 ⟨rfl, hq1, hq2⟩
  have H1 := Lib.hid hq1
  have T1 := Lib.hid hq2
  have HB : Hid (BytesAt w1 (some ⟨b, o + at_, none⟩) q) := by
    have h := (hq1.hb.drop at_).take q.length
    rw [HQ.out] at h
    exact h
  clear hq1 hq2
  go_wp2_with (at_builtin; refine wc_append_bytes (x := .const (.slice none 0 0)) (y := .tmp 7) (sCap := cap - at_) byteT HNE.out hq5 HB.out rfl rfl rfl rfl ?_; intro g c w2 hg hc hcm hb ht; go_frame; have H2 := Lib.hid (H1.out.touch ht (by simp) (by simp)); have T2 := Lib.hid (T1.out.trans (ht.mono (by simp))); clear hg hc hcm hb ht)
  go_ret
  exact ⟨⟨_, rfl⟩, H2.out, T2.out⟩
end Go.Proofs.YtkjgbhpnlgcinaaGreatDoor
