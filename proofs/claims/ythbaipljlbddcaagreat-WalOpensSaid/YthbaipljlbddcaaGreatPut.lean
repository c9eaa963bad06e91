/-
  Numbers written behind bytes, and read: package octet.
-/
import Derived.Test.YthbaipljlbddcaaGreatRows
import Derived.Test.YthbaipljlbddcaaGreatBytes
import Derived.Test.YthbaipljlbddcaaGreatSum
namespace Go.Proofs.YthbaipljlbddcaaGreat
open Go.RowKit Go.Cib

theorem byteT : ByteT Tryz.prog 130 5 := .of (by kernel_rfl) (by kernel_rfl)
/-- A slice of bytes that reads as l. -/
def BytesV (w : World) (v : Value) (l : List UInt8) : Prop := ∃ a cap, v = .slice a l.length cap ∧ BytesAt w a l
theorem BytesV.later {w w' : World} {v : Value} {l : List UInt8} (h : BytesV w v l) (ht : Tch [] w w') : BytesV w' v l := by
  obtain ⟨a, cap, h1, h2⟩ := h
  exact ⟨a, cap, h1, h2.later ht⟩
def BytesOut (w : World) (l : List UInt8) (e : Ending) (w' : World) : Prop := ∃ v, e = .returned v ∧ BytesV w' v l ∧ Tch [] w w'
/-- What the loop of put has laid: the last i bytes. -/
def putRow (l : List UInt8) (k n i : Nat) : List UInt8 := l ++ (List.replicate (k - i) 0 ++ be i n)
theorem length_putRow (l : List UInt8) {k n i : Nat} (h : i ≤ k) : (putRow l k n i).length = l.length + k := by simp [putRow]; omega
theorem putRow_zero (l : List UInt8) (k n : Nat) : putRow l k n 0 = l ++ List.replicate k 0 := by simp [putRow, be]
theorem putRow_full (l : List UInt8) (k n : Nat) : putRow l k n k = l ++ be k n := by simp [putRow]
theorem putRow_step (l : List UInt8) {k n i : Nat} (h : i < k) : (putRow l k n i).set (l.length + (k - 1 - i)) (UInt8.ofNat (n / 256 ^ i)) = putRow l k n (i + 1) := by
  unfold putRow
  rw [List.set_append_right _ _ (by omega), show l.length + (k - 1 - i) - l.length = k - 1 - i by omega, be_cons]
  congr 1
  rw [List.set_append_left _ _ (by simp; omega), show k - i = (k - 1 - i) + 1 by omega, List.replicate_succ']
  rw [List.set_append_right _ _ (by simp), List.length_replicate, Nat.sub_self, List.set_cons_zero, show k - (i + 1) = k - 1 - i by omega]
  simp

set_option maxRecDepth 20000 in
set_option maxHeartbeats 1000000 in
theorem put_u32 {w : World} {a : Option Addr} {cap : Nat} {l : List UInt8} (hl : BytesAt w a l) (hlen : l.length ≤ 100000) (n : Nat) (hn : n < 4294967296) (k : Nat) (hk : k ≤ 8) :
    Calls Tryz.prog 107 #[.slice a l.length cap, .int .u32 n, .int .i64 k] w (BytesOut w (l ++ be k n)) := by
  obtain ⟨m, hm⟩ : ∃ m, l.length = m := ⟨_, rfl⟩
  rw [hm] at hlen ⊢
  have ht : Tch [] w (w.alloc (.cells (bytesA (List.replicate (m + k) 0)) 5)) := (Tch.refl _ _).alloc _
  have HT := Lib.hid ht
  have HL := Lib.hid (hl.later ht)
  have HM := Lib.hid hm
  clear hl ht hm
  have hg : (w.alloc (.cells (bytesA (List.replicate (m + k) 0)) 5)).heap[w.heap.size]? = some (.cells (bytesA (List.replicate (m + k) 0)) 5) := heap_alloc_new _ _
  have HG := Lib.hid hg
  clear hg
  have e1 : ((m : Int) + (k : Int)) = ((m + k : Nat) : Int) := rfl
  have MAKE : Hid (∀ {ops : Array Oper} {rest : List Oper} {a : Act} {Q : Exit → Act → World → Prop} {dst : Option Tmp} {ty : TypeId} {pos : String} {af : Array Edge} {x : Operand}, a.eval x = .int .i64 ((m : Int) + (k : Int)) →
      wpList Tryz.prog ops Q rest (a.put dst (.slice (some ⟨w.heap.size, 0, none⟩) (m + k) (m + k))) (w.alloc (.cells (bytesA (List.replicate (m + k) 0)) 5)) → wpList Tryz.prog ops Q (⟨dst, .makeSlice 130 x x, ty, pos, af, none⟩ :: rest) a w) := by
    intro ops rest a Q dst ty pos af x hx h
    exact wc_makeBytes byteT (by omega) hx hx h
  have COPY : Hid (∀ {ops : Array Oper} {rest : List Oper} {a2 : Act} {Q : Exit → Act → World → Prop} {dst : Option Tmp} {ty : TypeId} {pos : String} {af : Array Edge} {x y : Operand}, a2.eval x = .slice (some ⟨w.heap.size, 0, none⟩) (m + k) (m + k) → a2.eval y = .slice a m cap →
      (∀ w', w'.heap[w.heap.size]? = some (.cells (bytesA (putRow l k n 0)) 5) → Tch [] w w' → wpList Tryz.prog ops Q rest (a2.put dst (goInt m)) w') → wpList Tryz.prog ops Q (⟨dst, .call { callee := .builtin .copy, args := #[x, y], argTypes := #[130, 130] }, ty, pos, af, none⟩ :: rest) a2 (w.alloc (.cells (bytesA (List.replicate (m + k) 0)) 5))) := by
    intro ops rest a2 Q dst ty pos af x y hx hy h
    have hm := HM.out
    subst hm
    have hmin : Nat.min l.length (l.length + k) = l.length := Nat.min_eq_left (by omega)
    refine wc_copy_bytes byteT HG.out (by simp) HL.out hx hy ?_
    rw [hmin]
    refine h _ ?_ (tch_own HT.out ((Tch.refl [w.heap.size] _).setRow (.inl (by simp)) _) (by simp))
    rw [setRow_heap _ _ _ _ _ _ HG.out, putRow_zero]
    congr 3
    simp
    exact List.take_of_length_le (by omega)
  clear e1
  go_enter Tryz.func107, Tryz.ntmps107
  go_wp2_with (first | ((with_reducible apply MAKE.out); exact rfl; go_frame) | ((with_reducible apply COPY.out); exact rfl; exact rfl; intro w2 hg2 ht2; go_frame; have HG2 := Lib.hid hg2; have HT2 := Lib.hid ht2; clear hg2 ht2))
  have HGE : Hid (w.heap.size ≤ w.heap.size) := Nat.le_refl _
  generalize hgg : w.heap.size = g at HG2 ⊢
  rw [hgg] at HGE
  have HGE : Hid (w.heap.size ≤ g) := by show _ ≤ _; omega
  clear hgg MAKE COPY HG
  go_loopg [1, 8, 18] k (fun q x _ i wr => ∃ j p, OnAt k i q j ∧ x = .int .u32 (p : Nat) ∧ p = n / 256 ^ j ∧ wr.heap[g]? = some (.cells (bytesA (putRow l k n j)) 5) ∧ Tch [] w wr)
  case atStart => exact ⟨0, n, ⟨Nat.zero_le _, rfl, rfl⟩, rfl, by simp, HG2.out, HT2.out⟩
  case round =>
    obtain ⟨j, p, ⟨hj, rfl, rfl⟩, rfl, hp, hg3, ht3⟩ := hrel
    have HP := Lib.hid hp
    have HG3 := Lib.hid hg3
    have HT3 := Lib.hid ht3
    have hpb : p < 4294967296 := by rw [hp]; exact Nat.lt_of_le_of_lt (Nat.div_le_self _ _) hn
    clear hg3 ht3 hp HG2 HT2
    by_cases hjk : j < k
    · have hlr : (putRow l k n j).length = m + k := by rw [length_putRow l hj, HM.out]
      have cB : wr.cell? ⟨g, m + k - 1 - j, none⟩ = some (bv ((putRow l k n j).getD (m + k - 1 - j) 0)) := by
        rw [cell_of_row wr g _ _ _ _ HG3.out, bytesA_get, List.getD_eq_getElem?_getD, List.getElem?_eq_getElem (by omega)]
        rfl
      have fB := frozen_of_row wr g (m + k - 1 - j) _ _ HG3.out
      have hstep : (bytesA (putRow l k n j)).setIfInBounds (m + k - 1 - j) (.int .u8 ((p : Int) % 256)) = bytesA (putRow l k n (j + 1)) := by
        have e : Value.int .u8 ((p : Int) % 256) = bv (UInt8.ofNat (n / 256 ^ j)) := by
          unfold bv; rw [toNat_ofNat8, ← HP.out]; rfl
        have hm := HM.out
        rw [e, bytesA_set, ← putRow_step l hjk, show l.length + (k - 1 - j) = m + k - 1 - j by omega]
      have HST := Lib.hid hstep
      clear hlr hstep
      go_wp2_with fail
      go_roundg (k - (j + 1))
      case measure => omega
      case rel =>
        refine ⟨j + 1, p / 256, ⟨by omega, by go_num, rfl⟩, by go_num, ?_, ?_, HT3.out.setCell (.inr HGE.out) _⟩
        · rw [HP.out, Nat.div_div_eq_div_mul, Nat.pow_succ]
        · rw [heap_setCell_cells HG3.out, HST.out]
    · go_wp2_with fail
      go_ret
      have hjk2 : j = k := by omega
      have hg3 := HG3.out
      rw [hjk2, putRow_full] at hg3
      refine ⟨.slice (some ⟨g, 0, none⟩) (m + k) (m + k), rfl, ⟨some ⟨g, 0, none⟩, m + k, ?_, ?_⟩, HT3.out⟩
      · rw [List.length_append, length_be, HM.out]
      · have := bytesAt_row hg3 0
        simpa using this

set_option maxRecDepth 20000 in
set_option maxHeartbeats 1000000 in
theorem put_u64 {w : World} {a : Option Addr} {cap : Nat} {l : List UInt8} (hl : BytesAt w a l) (hlen : l.length ≤ 100000) (n : Nat) (hn : n < 18446744073709551616) (k : Nat) (hk : k ≤ 8) :
    Calls Tryz.prog 108 #[.slice a l.length cap, .int .u64 n, .int .i64 k] w (BytesOut w (l ++ be k n)) := by
  obtain ⟨m, hm⟩ : ∃ m, l.length = m := ⟨_, rfl⟩
  rw [hm] at hlen ⊢
  have ht : Tch [] w (w.alloc (.cells (bytesA (List.replicate (m + k) 0)) 5)) := (Tch.refl _ _).alloc _
  have HT := Lib.hid ht
  have HL := Lib.hid (hl.later ht)
  have HM := Lib.hid hm
  clear hl ht hm
  have hg : (w.alloc (.cells (bytesA (List.replicate (m + k) 0)) 5)).heap[w.heap.size]? = some (.cells (bytesA (List.replicate (m + k) 0)) 5) := heap_alloc_new _ _
  have HG := Lib.hid hg
  clear hg
  have e1 : ((m : Int) + (k : Int)) = ((m + k : Nat) : Int) := rfl
  have MAKE : Hid (∀ {ops : Array Oper} {rest : List Oper} {a : Act} {Q : Exit → Act → World → Prop} {dst : Option Tmp} {ty : TypeId} {pos : String} {af : Array Edge} {x : Operand}, a.eval x = .int .i64 ((m : Int) + (k : Int)) →
      wpList Tryz.prog ops Q rest (a.put dst (.slice (some ⟨w.heap.size, 0, none⟩) (m + k) (m + k))) (w.alloc (.cells (bytesA (List.replicate (m + k) 0)) 5)) → wpList Tryz.prog ops Q (⟨dst, .makeSlice 130 x x, ty, pos, af, none⟩ :: rest) a w) := by
    intro ops rest a Q dst ty pos af x hx h
    exact wc_makeBytes byteT (by omega) hx hx h
  have COPY : Hid (∀ {ops : Array Oper} {rest : List Oper} {a2 : Act} {Q : Exit → Act → World → Prop} {dst : Option Tmp} {ty : TypeId} {pos : String} {af : Array Edge} {x y : Operand}, a2.eval x = .slice (some ⟨w.heap.size, 0, none⟩) (m + k) (m + k) → a2.eval y = .slice a m cap →
      (∀ w', w'.heap[w.heap.size]? = some (.cells (bytesA (putRow l k n 0)) 5) → Tch [] w w' → wpList Tryz.prog ops Q rest (a2.put dst (goInt m)) w') → wpList Tryz.prog ops Q (⟨dst, .call { callee := .builtin .copy, args := #[x, y], argTypes := #[130, 130] }, ty, pos, af, none⟩ :: rest) a2 (w.alloc (.cells (bytesA (List.replicate (m + k) 0)) 5))) := by
    intro ops rest a2 Q dst ty pos af x y hx hy h
    have hm := HM.out
    subst hm
    have hmin : Nat.min l.length (l.length + k) = l.length := Nat.min_eq_left (by omega)
    refine wc_copy_bytes byteT HG.out (by simp) HL.out hx hy ?_
    rw [hmin]
    refine h _ ?_ (tch_own HT.out ((Tch.refl [w.heap.size] _).setRow (.inl (by simp)) _) (by simp))
    rw [setRow_heap _ _ _ _ _ _ HG.out, putRow_zero]
    congr 3
    simp
    exact List.take_of_length_le (by omega)
  clear e1
  go_enter Tryz.func108, Tryz.ntmps108
  go_wp2_with (first | ((with_reducible apply MAKE.out); exact rfl; go_frame) | ((with_reducible apply COPY.out); exact rfl; exact rfl; intro w2 hg2 ht2; go_frame; have HG2 := Lib.hid hg2; have HT2 := Lib.hid ht2; clear hg2 ht2))
  have HGE : Hid (w.heap.size ≤ w.heap.size) := Nat.le_refl _
  generalize hgg : w.heap.size = g at HG2 ⊢
  rw [hgg] at HGE
  have HGE : Hid (w.heap.size ≤ g) := by show _ ≤ _; omega
  clear hgg MAKE COPY HG
  go_loopg [1, 8, 18] k (fun q x _ i wr => ∃ j p, OnAt k i q j ∧ x = .int .u64 (p : Nat) ∧ p = n / 256 ^ j ∧ wr.heap[g]? = some (.cells (bytesA (putRow l k n j)) 5) ∧ Tch [] w wr)
  case atStart => exact ⟨0, n, ⟨Nat.zero_le _, rfl, rfl⟩, rfl, by simp, HG2.out, HT2.out⟩
  case round =>
    obtain ⟨j, p, ⟨hj, rfl, rfl⟩, rfl, hp, hg3, ht3⟩ := hrel
    have HP := Lib.hid hp
    have HG3 := Lib.hid hg3
    have HT3 := Lib.hid ht3
    have hpb : p < 18446744073709551616 := by rw [hp]; exact Nat.lt_of_le_of_lt (Nat.div_le_self _ _) hn
    clear hg3 ht3 hp HG2 HT2
    by_cases hjk : j < k
    · have hlr : (putRow l k n j).length = m + k := by rw [length_putRow l hj, HM.out]
      have cB : wr.cell? ⟨g, m + k - 1 - j, none⟩ = some (bv ((putRow l k n j).getD (m + k - 1 - j) 0)) := by
        rw [cell_of_row wr g _ _ _ _ HG3.out, bytesA_get, List.getD_eq_getElem?_getD, List.getElem?_eq_getElem (by omega)]
        rfl
      have fB := frozen_of_row wr g (m + k - 1 - j) _ _ HG3.out
      have hstep : (bytesA (putRow l k n j)).setIfInBounds (m + k - 1 - j) (.int .u8 ((p : Int) % 256)) = bytesA (putRow l k n (j + 1)) := by
        have e : Value.int .u8 ((p : Int) % 256) = bv (UInt8.ofNat (n / 256 ^ j)) := by
          unfold bv; rw [toNat_ofNat8, ← HP.out]; rfl
        have hm := HM.out
        rw [e, bytesA_set, ← putRow_step l hjk, show l.length + (k - 1 - j) = m + k - 1 - j by omega]
      have HST := Lib.hid hstep
      clear hlr hstep
      go_wp2_with fail
      go_roundg (k - (j + 1))
      case measure => omega
      case rel =>
        refine ⟨j + 1, p / 256, ⟨by omega, by go_num, rfl⟩, by go_num, ?_, ?_, HT3.out.setCell (.inr HGE.out) _⟩
        · rw [HP.out, Nat.div_div_eq_div_mul, Nat.pow_succ]
        · rw [heap_setCell_cells HG3.out, HST.out]
    · go_wp2_with fail
      go_ret
      have hjk2 : j = k := by omega
      have hg3 := HG3.out
      rw [hjk2, putRow_full] at hg3
      refine ⟨.slice (some ⟨g, 0, none⟩) (m + k) (m + k), rfl, ⟨some ⟨g, 0, none⟩, m + k, ?_, ?_⟩, HT3.out⟩
      · rw [List.length_append, length_be, HM.out]
      · have := bytesAt_row hg3 0
        simpa using this

theorem put32_any {w : World} {a : Option Addr} {cap : Nat} {l : List UInt8} (hl : BytesAt w a l) (hlen : l.length ≤ 100000) (n : Nat) (hn : n < 4294967296) :
    Calls Tryz.prog 90 #[.slice a l.length cap, .int .u32 n] w (BytesOut w (l ++ be 4 n)) := by
  have HC := Lib.hid (put_u32 (cap := cap) hl hlen n hn 4 (by omega))
  clear hl
  generalize l.length = m at *
  go_enter Tryz.func90, Tryz.ntmps90
  go_wp2_with fail
  refine HC.out.mono ?_
  rintro e w' ⟨v, rfl, h1, h2⟩
  have H1 := Lib.hid h1
  have H2 := Lib.hid h2
  clear h1 h2
  go_wp2_with fail
  go_ret
  exact ⟨v, rfl, H1.out, H2.out⟩

theorem put64_any {w : World} {a : Option Addr} {cap : Nat} {l : List UInt8} (hl : BytesAt w a l) (hlen : l.length ≤ 100000) (n : Nat) (hn : n < 18446744073709551616) :
    Calls Tryz.prog 91 #[.slice a l.length cap, .int .u64 n] w (BytesOut w (l ++ be 8 n)) := by
  have HC := Lib.hid (put_u64 (cap := cap) hl hlen n hn 8 (by omega))
  clear hl
  generalize l.length = m at *
  go_enter Tryz.func91, Tryz.ntmps91
  go_wp2_with fail
  refine HC.out.mono ?_
  rintro e w' ⟨v, rfl, h1, h2⟩
  have H1 := Lib.hid h1
  have H2 := Lib.hid h2
  clear h1 h2
  go_wp2_with fail
  go_ret
  exact ⟨v, rfl, H1.out, H2.out⟩
end Go.Proofs.YthbaipljlbddcaaGreat
