/-
  Frames as sectors, and read: package wal's sector, read.
-/
import Derived.Test.YtkjgbhpnlgcinaaGreatDoorMB1
import Derived.Test.YtkjgbhpnlgcinaaGreatDoorMQ
import Derived.Deep.CutBlock
import Derived.Test.YtkjgbhpnlgcinaaGreatDoorMR2
namespace Go.Cib
open Go Go.RowKit
section
variable {P : Program} {T e : TypeId} {ops : Array Oper} {rest : List Oper} {a : Act} {w : World} {Q : Exit → Act → World → Prop} {dst : Option Tmp} {ty : TypeId} {pos : String} {af : Array Edge} {x y : Operand} {gd : Option (Nat × Bool)}
theorem wc_box_agg {vs : Array Value} (hx : a.eval x = .agg vs) (h : wpList P ops Q rest (a.put dst (.pointer (some ⟨w.heap.size, 0, none⟩))) (w.alloc (.cells vs T))) : wpList P ops Q (⟨dst, .box T x, ty, pos, af, none⟩ :: rest) a w :=
  wc_value rfl (by rw [exec_box rfl, hx]; rfl) h
/-- 'append(b, c...)' of bytes, b without room: in new memory. -/
theorem wc_append_full (hT : ByteT P T e) {b off : Nat} {l1 : List UInt8} (h1 : BytesAt w (some ⟨b, off, none⟩) l1) {ad : Addr} {sCap : Nat} {l2 : List UInt8} (hne : l2 ≠ []) (hlen : l1.length + l2.length ≤ 100000) (h2 : BytesAt w (some ad) l2) {ar : Array Operand} {ts : Array TypeId} (har : ar = #[x, y]) (hts : ts = #[T, T])
    (hx : a.eval x = .slice (some ⟨b, off, none⟩) l1.length l1.length) (hy : a.eval y = .slice (some ad) l2.length sCap)
    (h' : ∀ k cap w', w.heap.size ≤ k → BytesAt w' (some ⟨k, 0, none⟩) (l1 ++ l2) → Tch [] w w' → wpList P ops Q rest (a.put dst (.slice (some ⟨k, 0, none⟩) (l1 ++ l2).length cap)) w') :
    wpList P ops Q (⟨dst, .call { callee := .builtin .append, args := ar, argTypes := ts }, ty, pos, af, none⟩ :: rest) a w := by
  subst har hts
  obtain ⟨i, g1, g2, g3, g4⟩ := hT.info
  have hpos : 0 < l2.length := List.length_pos_iff.2 hne
  refine wpList_append_arg w rfl x y T rfl e i (.int .u8 0) 1 1 hT.und g1 g2 g3 g4 rfl (by decide) b off l1.length l1.length (l1.map bv) hx (by simp) ?_ ad l2.length sCap (l2.map bv) hy (by simp) ?_ ?_ ?_ ?_ ?_ ?_ ?_
  · intro j u hj
    rw [List.getElem?_map] at hj
    obtain ⟨n, hn, rfl⟩ := Option.map_eq_some_iff.1 hj
    obtain ⟨b', o', e1, hc⟩ := h1 j n hn
    cases e1
    exact hc
  · intro j u hj
    rw [List.getElem?_map] at hj
    obtain ⟨n, hn, rfl⟩ := Option.map_eq_some_iff.1 hj
    obtain ⟨b', o', e1, hc⟩ := h2 j n hn
    cases e1
    rw [add_mk]; exact hc
  · intro u hu
    obtain ⟨n, _, rfl⟩ := List.mem_map.1 hu
    rfl
  · intro h; omega
  · unfold maxLen; omega
  · omega
  · intro h; omega
  · intro _ v' w' hown hgr
    rw [← List.map_append] at hown
    obtain ⟨hl', hv | ⟨k, cap', cur, rfl, hgk, hk, hc1, hc2, hc3, hc4⟩⟩ := hown
    · exfalso
      obtain ⟨_, h0⟩ := hv
      omega
    · rw [← List.length_append] at hc1 ⊢
      refine h' k cap' w' hgk (fun j x hj => ⟨k, 0, rfl, ?_⟩) (Tch.of_grown hgr (fun q hq => by simp at hq))
      rw [Nat.zero_add, cell_of_row w' k j _ _ _ hk]
      have hjl := (List.getElem?_eq_some_iff.1 hj).1
      have h3 : (cur.toList.take ((l1.length + l2.length) * 1))[j]? = ((l1 ++ l2).map bv)[j]? := by rw [hc4]
      rw [List.length_append] at hjl
      rw [List.getElem?_take, if_pos (by omega), Array.getElem?_toList, List.getElem?_map, hj] at h3
      exact h3
/-- '[]byte(b)' of bytes: a mark on the block, no cell turned. -/
theorem exec_convert_bytes (hT : ByteT P T e) (hE : P.underlying e = some (.int .u8)) {b o n cap : Nat} {c : Array Value} {e' : TypeId} {fr : Nat × Nat} (hb : w.heap[b]? = some (.cells c e' fr)) (hx : a.eval x = .slice (some ⟨b, o, none⟩) n cap) :
    ∃ w', (execOp a.eval ⟨dst, .convert T T x, ty, pos, af, gd⟩).run P w = .ok (.value (.slice (some ⟨b, o, none⟩) n cap)) w' ∧ Tch [b] w w' ∧ ∃ fr', w'.heap[b]? = some (.cells c e' fr') := by
  have hlt := lt_of_heap hb
  refine ⟨w.freeze ⟨b, c.size, none⟩ 1, ?_, ⟨rfl, rfl, rfl, by simp [World.freeze], fun k hk hn => ?_⟩, ?_⟩
  · unfold execOp
    simp only [hx]
    simp [convert, Sem.run_bind, run_underlying hT.und, run_underlying hE, markStringish, shape, Sem.run, hb, freeze, World.shape?]
  · have hkb : ¬ b = k := by simpa using (Ne.symm (by simpa using hn))
    simp only [World.freeze]
    rw [if_neg (by decide), Array.getElem?_modify, if_neg hkb]
  · simp only [World.freeze]
    rw [if_neg (by decide), Array.getElem?_modify, if_pos rfl, hb]
    obtain ⟨lo, hi⟩ := fr
    exact ⟨_, rfl⟩
theorem wc_convert_bytes (hT : ByteT P T e) (hE : P.underlying e = some (.int .u8)) {b o n cap : Nat} {c : Array Value} {e' : TypeId} {fr : Nat × Nat} (hb : w.heap[b]? = some (.cells c e' fr)) (hx : a.eval x = .slice (some ⟨b, o, none⟩) n cap)
    (h : ∀ w' fr', Tch [b] w w' → w'.heap[b]? = some (.cells c e' fr') → wpList P ops Q rest (a.put dst (.slice (some ⟨b, o, none⟩) n cap)) w') : wpList P ops Q (⟨dst, .convert T T x, ty, pos, af, none⟩ :: rest) a w := by
  obtain ⟨w', h1, h2, fr', h3⟩ := exec_convert_bytes (dst := dst) (ty := ty) (pos := pos) (af := af) (gd := none) hT hE hb hx
  exact wc_value rfl h1 (h w' fr' h2 h3)
theorem bytesAt_fr {w : World} {b : Nat} {l : List UInt8} {e : TypeId} {fr : Nat × Nat} (h : w.heap[b]? = some (.cells (bytesA l) e fr)) : BytesAt w (some ⟨b, 0, none⟩) l := by
  have := bytesAt_row h 0
  simpa using this
end
def frameA (f : FrameV) : Array Value := #[bv f.kind, .int .u64 f.gen, .int .u64 f.num, .int .u32 f.idx] ++ secA f.page
theorem size_frameA (f : FrameV) : (frameA f).size = 484 := by simp [frameA]
theorem frameA_one (f : FrameV) : ∀ v ∈ (frameA f).toList, v.oneCell' = true := by
  intro v hv
  simp only [frameA, Array.toList_append, List.mem_append] at hv
  rcases hv with hv | hv
  · simp at hv
    rcases hv with rfl | rfl | rfl | rfl <;> rfl
  · exact secA_one _ v hv
end Go.Cib
namespace Go.Proofs.YtkjgbhpnlgcinaaGreatDoor
open Go.RowKit Go.Cib
theorem pageT : BytesT Tryz.prog 54 480 :=
  .of (E := 5) (by kernel_rfl) (by kernel_rfl) (by kernel_rfl) (by kernel_rfl) (by kernel_rfl)
theorem uByte : Tryz.prog.underlying 5 = some (.int .u8) := by kernel_rfl
theorem frameT : AggT Tryz.prog 155 484 := by
  refine ⟨?_, ?_⟩
  · have h : (Tryz.prog.underlying 155).map (fun d => match d with | .struct _ | .array _ _ => true | _ => false) = some true := by kernel_rfl
    obtain ⟨d, h1, h2⟩ := Option.map_eq_some_iff.1 h
    exact ⟨d, h1, h2⟩
  · have h : (Tryz.prog.info? 155).map (·.size) = some 484 := by kernel_rfl
    obtain ⟨d, h1, h2⟩ := Option.map_eq_some_iff.1 h
    exact ⟨d, h1, h2⟩

theorem ev_tmp {fu : Act} {t : Nat} {v : Value} (h : fu.eval (.tmp t) = v) : fu.tmps[t]?.getD undef = v := by rw [← Array.getD_eq_getD_getElem?]; exact h
theorem wanted_none' {o : Oper} {y : Nat → Option Bool} (h : o.guard = none) : Region.wanted o y = true := by unfold Region.wanted; rw [h]
theorem step_plain {o : Oper} {y : Nat → Option Bool} {A C : Prop} (hg : o.guard = none) (h : A) : (Region.wanted o y = true → A) ∧ (Region.wanted o y = false → C) := ⟨fun _ => h, fun hc => by rw [wanted_none' hg] at hc; cases hc⟩
theorem stpR_ok {P : Program} {K : Value → World → Prop} {r : Result Next} {u : Value} {w : World} (h : r = .ok (.value u) w) (hK : K u w) : StpR P K r := by rw [h]; exact hK
theorem exec_move {P : Program} {a : Act} {w : World} {dst : Option Tmp} {ty : TypeId} {pos : String} {af : Array Edge} {x : Operand} {gd : Option (Nat × Bool)} {v : Value} (hx : a.eval x = v) :
    (execOp a.eval ⟨dst, .move x, ty, pos, af, gd⟩).run P w = .ok (.value v) w := by
  subst hx
  unfold execOp
  simp
theorem frame_page {w : World} {X : Nat} {f : FrameV} {e : TypeId} {fr : Nat × Nat} (h : w.heap[X]? = some (.cells (frameA f) e fr)) : BytesAt w (some ⟨X, 4, none⟩) f.page.l := by
  intro j x hj
  refine ⟨X, 4, rfl, ?_⟩
  rw [cell_of_row w X (4 + j) _ _ _ h]
  unfold frameA
  rw [Array.getElem?_append_right (by simp)]
  simp only [List.size_toArray, List.length_cons, List.length_nil]
  rw [show 4 + j - (0 + 1 + 1 + 1 + 1) = j by omega]
  unfold secA
  rw [bytesA_get, hj]; rfl
def bare (f : FrameV) : Sec := ⟨f.with_ [0, 0, 0, 0], by simp [FrameV.with_, FrameV.length_head, f.page.h]⟩
def KC (S3 : Nat) (f : FrameV) : Nat → Value → World → Prop
  | 0, v, _ => v = .slice (some ⟨S3, 28, none⟩) 484 484
  | 1, v, _ => v = .agg (secA (bare f))
  | 2, v, _ => v = .int .u32 f.check
  | _, v, w => BytesV w v (be 4 f.check)
theorem KC.later {X : Nat} {f : FrameV} {j : Nat} {v : Value} {w w' : World} (h : KC X f j v w) (ht : Tch [] w w') : KC X f j v w' := by
  unfold KC at h ⊢
  split at h <;> first | exact h | exact h.later ht
def pre8 (f : FrameV) : List UInt8 := [99, 105, 98, 111] ++ [f.kind, 0, 0, 0]
def KS (X : Nat) (f : FrameV) : Nat → Value → World → Prop
  | 0, v, w => BytesV w v (pre8 f)
  | 1, v, _ => v = .pointer (some ⟨X, 1, none⟩)
  | 2, v, _ => v = .int .u64 f.gen
  | 3, v, w => BytesV w v (pre8 f ++ be 8 f.gen)
  | 4, v, _ => v = .pointer (some ⟨X, 2, none⟩)
  | 5, v, _ => v = .int .u64 f.num
  | 6, v, w => BytesV w v (pre8 f ++ be 8 f.gen ++ be 8 f.num)
  | 7, v, _ => v = .pointer (some ⟨X, 3, none⟩)
  | 8, v, _ => v = .int .u32 f.idx
  | _, v, w => BytesV w v (pre8 f ++ be 8 f.gen ++ be 8 f.num ++ be 4 f.idx)
theorem KS.later {X : Nat} {f : FrameV} {j : Nat} {v : Value} {w w' : World} (h : KS X f j v w) (ht : Tch [] w w') : KS X f j v w' := by
  unfold KS at h ⊢
  split at h <;> first | exact h | exact h.later ht

set_option maxRecDepth 20000 in
set_option maxHeartbeats 2000000 in
theorem sector_any (f : FrameV) (hf : f.Ok) (w : World) : Calls Tryz.prog 115 #[.agg (frameA f)] w fun e w' => e = .returned (.agg (secA f.sector)) ∧ Tch [] w w' := by
  obtain ⟨w1, hw1⟩ : ∃ w1, ((w.alloc (.cells (frameA f) 155)).alloc (.cells (secA (Arr.zero : Sec)) 124)).alloc (.cells (secA (Arr.zero : Sec)) 124) = w1 := ⟨_, rfl⟩
  have HW1 := Lib.hid hw1
  clear hw1
  go_enter Tryz.func115, Tryz.ntmps115
  go_upto_region 2 with (first | ((with_reducible refine wc_box_agg ?_ ?_); exact rfl; go_frame) | ((with_reducible refine wc_alloc_arr secT ?_); go_frame; (try simp only [World.size_alloc])))
  rw [HW1.out]
  have hX : w1.heap[w.heap.size]? = some (.cells (frameA f) 155) := by
    rw [← HW1.out, heap_alloc, if_neg (by simp; omega), heap_alloc, if_neg (by simp), heap_alloc, if_pos rfl]
  have hR : w1.heap[w.heap.size + 1]? = some (.cells (secA (Arr.zero : Sec)) 124) := by
    rw [← HW1.out, heap_alloc, if_neg (by simp), heap_alloc, if_pos (by simp)]
  have hB : w1.heap[w.heap.size + 1 + 1]? = some (.cells (secA (Arr.zero : Sec)) 124) := by
    rw [← HW1.out, heap_alloc, if_pos (by simp)]
  have ht : Tch [] w w1 := by rw [← HW1.out]; exact (((Tch.refl _ _).alloc _).alloc _).alloc _
  have c0 := cell_of_row w1 _ 0 _ _ _ hX
  have c1 := cell_of_row w1 _ 1 _ _ _ hX
  have c2 := cell_of_row w1 _ 2 _ _ _ hX
  have c3 := cell_of_row w1 _ 3 _ _ _ hX
  have fr : ∀ j : Nat, j < 4 → (frameA f)[j]? = (#[bv f.kind, .int .u64 f.gen, .int .u64 f.num, .int .u32 f.idx] : Array Value)[j]? := by
    intro j hj
    unfold frameA
    rw [Array.getElem?_append_left (by simpa using hj)]
  rw [fr 0 (by omega)] at c0
  rw [fr 1 (by omega)] at c1
  rw [fr 2 (by omega)] at c2
  rw [fr 3 (by omega)] at c3
  simp only [List.getElem?_toArray, List.getElem?_cons_zero, List.getElem?_cons_succ] at c0 c1 c2 c3
  have HX := Lib.hid hX
  have HR := Lib.hid hR
  have HB := Lib.hid hB
  have HT := Lib.hid ht
  have hn0 : w.heap.size < w1.heap.size := lt_of_heap hX
  have hn1 : w.heap.size + 1 < w1.heap.size := lt_of_heap hR
  have hn2 : w.heap.size + 1 + 1 < w1.heap.size := lt_of_heap hB
  clear hX hR hB ht fr HW1
  obtain ⟨X, hXe⟩ : ∃ X, w.heap.size = X := ⟨_, rfl⟩
  have HXE := Lib.hid hXe
  rw [hXe] at HX HR HB c0 c1 c2 c3 hn0 hn1 hn2 ⊢
  clear hXe
  unfold bv at c0
  have HG1 : Hid ((w1.alloc (.cells #[.int .u8 99, .int .u8 105, .int .u8 98, .int .u8 111] 5)).heap[w1.heap.size]? = some (.cells (bytesA [99, 105, 98, 111]) 5)) := heap_alloc_new _ _
  go_upto_region 3 with (first | ((with_reducible apply wc_convert_bytes byteT uByte HG1.out); exact rfl; intro w2 fr2 ht2 hg2; go_frame; have T2 := Lib.hid (tch_own ((Tch.refl [] w1).alloc (.cells #[.int .u8 99, .int .u8 105, .int .u8 98, .int .u8 111] 5)) ht2 (by simp)); have B2 := Lib.hid (bytesAt_fr hg2); have c0' := cell_old T2.out c0; clear ht2 hg2) | (at_builtin; refine wc_append_full (x := .tmp 6) (y := .tmp 9) byteT (B2.out.later ((Tch.refl [] _).alloc _)) (l2 := [f.kind, 0, 0, 0]) (by simp) (by simp) (bytesAt_fr (heap_alloc_new w2 (.cells (bytesA [f.kind, 0, 0, 0]) 5))) rfl rfl rfl rfl ?_; intro k c w3 hk hb ht; go_frame; have B3 := Lib.hid hb; have T3 := Lib.hid ((T2.out.alloc (.cells (bytesA [f.kind, 0, 0, 0]) 5)).trans ht); clear hk hb ht))
  have hgen := hf.gen
  have hnum := hf.num
  have hidx := hf.idx
  have lpre : (pre8 f).length = 8 := by simp [pre8]
  have B3' : Hid (BytesV w3 (.slice (some ⟨k, 0, none⟩) ([99, 105, 98, 111] ++ [f.kind, 0, 0, 0]).length c) (pre8 f)) := ⟨_, _, rfl, B3.out⟩
  refine wp_region_valt 10 (fun w' => Tch [] w3 w') (KS X f) (by kernel_rfl) (by kernel_rfl) (by kernel_rfl) ((Tch.refl _ _).drew) (fun w4 w5 _ _ ht i v hk => hk.later ht) ?_ ?_
  · intro i o hi ho fu w4 hC hold hdep
    have hi7 : i = 0 ∨ i = 1 ∨ i = 2 ∨ i = 3 ∨ i = 4 ∨ i = 5 ∨ i = 6 ∨ i = 7 ∨ i = 8 ∨ i = 9 := by omega
    have hX1 := hold 1 (by show _ < 34; omega) (by kernel_rfl)
    have hX1 : fu.tmps[1]?.getD undef = .pointer (some ⟨X, 0, none⟩) := ev_tmp hX1
    have t4 := T3.out.trans hC
    have c1' := cell_old t4 c1
    have c2' := cell_old t4 c2
    have c3' := cell_old t4 c3
    rcases hi7 with rfl | rfl | rfl | rfl | rfl | rfl | rfl | rfl | rfl | rfl
    all_goals (simp only [List.getElem?_cons_zero, List.getElem?_cons_succ, Option.some.injEq] at ho; subst ho; apply step_plain rfl)
    · have hx := hold 4 (by show _ < 34; omega) (by kernel_rfl)
      exact stpR_ok (exec_move hx) ⟨B3'.out.later hC, hC, Tch.refl _ _⟩
    · go_simp
      exact ⟨rfl, Tch.refl _ _⟩
    · have hx : fu.tmps[12]?.getD undef = .pointer (some ⟨X, 1, none⟩) := ev_tmp (hdep 1 12 (by show _ < 34; omega) (by kernel_rfl) (by kernel_rfl))
      go_simp
      exact ⟨rfl, Tch.refl _ _⟩
    · have hx : BytesV w4 (fu.eval (.tmp 11)) (pre8 f) := hdep 0 11 (by show _ < 34; omega) (by kernel_rfl) (by kernel_rfl)
      have hy : fu.tmps[13]?.getD undef = .int .u64 f.gen := ev_tmp (hdep 2 13 (by show _ < 34; omega) (by kernel_rfl) (by kernel_rfl))
      obtain ⟨a1, d1, hx1, hx2⟩ := hx
      have hx1 := ev_tmp hx1
      have HP := Lib.hid (put64_any (cap := d1) hx2 (by omega) f.gen hgen)
      clear hx2
      go_simp
      refine HP.out.mono ?_
      rintro e w5 ⟨v, rfl, q1, q2⟩
      exact ⟨v, rfl, q1, hC.trans q2, q2⟩
    · go_simp
      exact ⟨rfl, Tch.refl _ _⟩
    · have hx : fu.tmps[15]?.getD undef = .pointer (some ⟨X, 2, none⟩) := ev_tmp (hdep 4 15 (by show _ < 34; omega) (by kernel_rfl) (by kernel_rfl))
      go_simp
      exact ⟨rfl, Tch.refl _ _⟩
    · have hx : BytesV w4 (fu.eval (.tmp 14)) (pre8 f ++ be 8 f.gen) := hdep 3 14 (by show _ < 34; omega) (by kernel_rfl) (by kernel_rfl)
      have hy : fu.tmps[16]?.getD undef = .int .u64 f.num := ev_tmp (hdep 5 16 (by show _ < 34; omega) (by kernel_rfl) (by kernel_rfl))
      obtain ⟨a1, d1, hx1, hx2⟩ := hx
      have hx1 := ev_tmp hx1
      have HP := Lib.hid (put64_any (cap := d1) hx2 (by simp only [List.length_append, length_be]; omega) f.num hnum)
      clear hx2
      go_simp
      refine HP.out.mono ?_
      rintro e w5 ⟨v, rfl, q1, q2⟩
      exact ⟨v, rfl, q1, hC.trans q2, q2⟩
    · go_simp
      exact ⟨rfl, Tch.refl _ _⟩
    · have hx : fu.tmps[18]?.getD undef = .pointer (some ⟨X, 3, none⟩) := ev_tmp (hdep 7 18 (by show _ < 34; omega) (by kernel_rfl) (by kernel_rfl))
      go_simp
      exact ⟨rfl, Tch.refl _ _⟩
    · have hx : BytesV w4 (fu.eval (.tmp 17)) (pre8 f ++ be 8 f.gen ++ be 8 f.num) := hdep 6 17 (by show _ < 34; omega) (by kernel_rfl) (by kernel_rfl)
      have hy : fu.tmps[19]?.getD undef = .int .u32 f.idx := ev_tmp (hdep 8 19 (by show _ < 34; omega) (by kernel_rfl) (by kernel_rfl))
      obtain ⟨a1, d1, hx1, hx2⟩ := hx
      have hx1 := ev_tmp hx1
      have HP := Lib.hid (put32_any (cap := d1) hx2 (by simp only [List.length_append, length_be]; omega) f.idx hidx)
      clear hx2
      go_simp
      refine HP.out.mono ?_
      rintro e w5 ⟨v, rfl, q1, q2⟩
      exact ⟨v, rfl, q1, hC.trans q2, q2⟩
  · intro vs w4 hC hK
    have hh : BytesV w4 (vs 9) (pre8 f ++ be 8 f.gen ++ be 8 f.num ++ be 4 f.idx) := hK 9 (by omega)
    obtain ⟨a9, d9, e9, h9⟩ := hh
    have hl9 : (pre8 f ++ be 8 f.gen ++ be 8 f.num ++ be 4 f.idx).length = 28 := by simp [lpre]
    have hhd : pre8 f ++ be 8 f.gen ++ be 8 f.num ++ be 4 f.idx = f.head := by simp [pre8, FrameV.head]
    rw [hl9] at e9
    rw [hhd] at h9
    have E9 := Lib.hid e9
    have H9 := Lib.hid h9
    have T4 := Lib.hid (T3.out.trans hC)
    clear hK hC e9 h9 hl9 hhd B3' B3 T3 B2 T2 HG1 hgen hnum hidx lpre c0 c1 c2 c3 c0'
    unfold fullOf
    rw [show (List.range 10).map vs = [vs 0, vs 1, vs 2, vs 3, vs 4, vs 5, vs 6, vs 7, vs 8, vs 9] from rfl, E9.out]
    generalize vs 0 = v0
    generalize vs 1 = v1
    generalize vs 2 = v2
    generalize vs 3 = v3
    generalize vs 4 = v4
    generalize vs 5 = v5
    generalize vs 6 = v6
    generalize vs 7 = v7
    generalize vs 8 = v8
    clear E9 vs
    simp only [List.take_succ_cons, List.take_zero, List.drop_succ_cons, List.drop_zero, putAll]
    go_frame
    obtain ⟨S3, hS3⟩ : ∃ S3, X + 1 + 1 = S3 := ⟨_, rfl⟩
    have HS3 := Lib.hid hS3
    rw [hS3] at HB hn2 ⊢
    have hXS : X ≠ S3 := by omega
    have hRS : X + 1 ≠ S3 := by omega
    clear hS3
    have X4 := Lib.hid (T4.out.heap HX.out (by simp))
    have R4 := Lib.hid (T4.out.heap HR.out (by simp))
    have S4 := Lib.hid (T4.out.heap HB.out (by simp))
    have COPY1 : Hid (∀ {ops : Array Oper} {rest : List Oper} {a2 : Act} {Q : Exit → Act → World → Prop} {dst : Option Tmp} {ty : TypeId} {pos : String} {af : Array Edge} {x y : Operand}, a2.eval x = .slice (some ⟨S3, 0, none⟩) 512 512 → a2.eval y = .slice a9 28 d9 →
        (∀ w', w'.heap[S3]? = some (.cells (bytesA (f.head ++ List.replicate 484 0)) 124) → Tch [S3] w4 w' → wpList Tryz.prog ops Q rest (a2.put dst (goInt 28)) w') → wpList Tryz.prog ops Q (⟨dst, .call { callee := .builtin .copy, args := #[x, y], argTypes := #[160, 160] }, ty, pos, af, none⟩ :: rest) a2 w4) := by
      intro ops rest a2 Q dst ty pos af x y hx hy h
      have hmin : Nat.min f.head.length 512 = 28 := by rw [f.length_head]; rfl
      refine wc_copy_bytes (l := f.head) (dLen := 512) byteT S4.out (by rw [Arr.zero, List.length_replicate]; omega) H9.out hx (by rw [f.length_head]; exact hy) ?_
      rw [hmin]
      refine h _ ?_ ((Tch.refl [S3] _).setRow (.inl (by simp)) _)
      rw [setRow_heap _ _ _ _ _ _ S4.out]
      have e : (Arr.zero : Sec).l.take 0 ++ f.head.take 512 ++ (Arr.zero : Sec).l.drop (0 + 28) = f.head ++ List.replicate 484 0 := by
        rw [List.take_of_length_le (l := f.head) (by rw [f.length_head]; omega)]
        simp [Arr.zero]
      rw [e]
    go_upto_region 5 with ((with_reducible apply COPY1.out); exact rfl; exact rfl; intro w5 hg5 ht5; go_frame; have S5 := Lib.hid hg5; have X5 := Lib.hid (ht5.heap X4.out (by simpa using hXS)); have R5 := Lib.hid (ht5.heap R4.out (by simpa using hRS)); have T5 := Lib.hid ht5; clear hg5 ht5)
    (refine wp_region_walk (C := fun w' => ∃ n, w' = World.drewN w5 n) 3 (by kernel_rfl) (by kernel_rfl) ⟨1, rfl⟩ ?_; simp only [List.take_succ_cons, List.take_zero, List.drop_succ_cons, List.drop_zero]; (repeat (first | fail | go_big_quiet_step (fail))); refine wpQuiet_nil ?_; intro _ hw'; obtain ⟨nq, hw''⟩ := hw'; subst hw'')
    have COPY2 : Hid (∀ {ops : Array Oper} {rest : List Oper} {a2 : Act} {Q : Exit → Act → World → Prop} {dst : Option Tmp} {ty : TypeId} {pos : String} {af : Array Edge} {x y : Operand}, a2.eval x = .slice (some ⟨S3, 32, none⟩) 480 480 → a2.eval y = .slice (some ⟨X, 4, none⟩) 480 480 →
        (∀ w', w'.heap[S3]? = some (.cells (secA (bare f)) 124) → Tch [S3] w5 w' → wpList Tryz.prog ops Q rest (a2.put dst (goInt 480)) w') → wpList Tryz.prog ops Q (⟨dst, .call { callee := .builtin .copy, args := #[x, y], argTypes := #[160, 160] }, ty, pos, af, none⟩ :: rest) a2 (w5.drewN nq)) := by
      intro ops rest a2 Q dst ty pos af x y hx hy h
      have hmin : Nat.min f.page.l.length 480 = 480 := by rw [f.page.h]; rfl
      have hS : (w5.drewN nq).heap[S3]? = some (.cells (bytesA (f.head ++ List.replicate 484 0)) 124) := drewN_heap S5.out _ ⟨nq, rfl⟩
      refine wc_copy_bytes (l := f.page.l) (dLen := 480) byteT hS (by rw [List.length_append, List.length_replicate, f.length_head]; omega) (frame_page (drewN_heap X5.out _ ⟨nq, rfl⟩)) hx (by rw [f.page.h]; exact hy) ?_
      rw [hmin]
      refine h _ ?_ (((tch_drewN w5 nq).mono (by simp)).setRow (.inl (by simp)) _)
      rw [setRow_heap _ _ _ _ _ _ hS]
      have e : (f.head ++ List.replicate 484 0).take 32 ++ f.page.l.take 480 ++ (f.head ++ List.replicate 484 0).drop (32 + 480) = (bare f).l := by
        have h1 := f.length_head
        rw [List.take_of_length_le (l := f.page.l) (by rw [f.page.h]; omega), List.take_append, h1, List.take_of_length_le (by omega), List.drop_of_length_le (by rw [List.length_append, List.length_replicate]; omega)]
        simp [bare, FrameV.with_]
      rw [e]
      rfl
    go_upto_region 6 with ((with_reducible apply COPY2.out); exact rfl; exact rfl; intro w6 hg6 ht6; go_frame; have S6 := Lib.hid hg6; have R6 := Lib.hid (ht6.heap R5.out (by simpa using hRS)); have T6 := Lib.hid (T5.out.trans ht6); clear hg6 ht6)
    refine wp_region_valt 4 (fun w' => Tch [] w6 w') (KC S3 f) (by kernel_rfl) (by kernel_rfl) (by kernel_rfl) ((Tch.refl _ _).drew) (fun w4 w5 _ _ ht i v hk => hk.later ht) ?_ ?_
    · intro i o hi ho fu w7 hC hold hdep
      have hi7 : i = 0 ∨ i = 1 ∨ i = 2 ∨ i = 3 := by omega
      have hS3 : fu.tmps[3]?.getD undef = .pointer (some ⟨S3, 0, none⟩) := ev_tmp (hold 3 (by show _ < 34; omega) (by kernel_rfl))
      rcases hi7 with rfl | rfl | rfl | rfl
      all_goals (simp only [List.getElem?_cons_zero, List.getElem?_cons_succ, Option.some.injEq] at ho; subst ho; apply step_plain rfl)
      · go_simp
        exact ⟨rfl, Tch.refl _ _⟩
      · exact stpR_ok (exec_load_var secT rfl (hC.heap S6.out (by simp)) (hold 3 (by show _ < 34; omega) (by kernel_rfl))) ⟨rfl, hC, Tch.refl _ _⟩
      · have hx : fu.tmps[29]?.getD undef = .agg (secA (bare f)) := ev_tmp (hdep 1 29 (by show _ < 34; omega) (by kernel_rfl) (by kernel_rfl))
        go_simp
        refine (sum_any (bare f) w7).mono ?_
        rintro e w8 ⟨rfl, q2⟩
        exact ⟨_, rfl, rfl, hC.trans q2, q2⟩
      · have hx : fu.tmps[30]?.getD undef = .int .u32 f.check := ev_tmp (hdep 2 30 (by show _ < 34; omega) (by kernel_rfl) (by kernel_rfl))
        have HP := Lib.hid (put32_any (a := none) (cap := 0) (bytesAt_nil w7 none) (by simp) f.check (crcOf_lt _))
        go_simp
        refine HP.out.mono ?_
        rintro e w5 ⟨v, rfl, q1, q2⟩
        exact ⟨v, rfl, q1, hC.trans q2, q2⟩
    · intro vs w7 hC hK
      have h0 : vs 0 = .slice (some ⟨S3, 28, none⟩) 484 484 := hK 0 (by omega)
      have hh : BytesV w7 (vs 3) (be 4 f.check) := hK 3 (by omega)
      obtain ⟨a10, d10, e10, h10⟩ := hh
      rw [length_be] at e10
      have E0 := Lib.hid h0
      have E10 := Lib.hid e10
      have H10 := Lib.hid h10
      have S7 := Lib.hid (hC.heap S6.out (by simp))
      have R7 := Lib.hid (hC.heap R6.out (by simp))
      have T7 := Lib.hid (T6.out.trans (hC.mono (S' := [S3]) (by simp)))
      clear hK hC h0 e10 h10
      unfold fullOf
      rw [show (List.range 4).map vs = [vs 0, vs 1, vs 2, vs 3] from rfl, E0.out, E10.out]
      generalize vs 1 = y1
      generalize vs 2 = y2
      clear E0 E10 vs
      simp only [List.take_succ_cons, List.take_zero, List.drop_succ_cons, List.drop_zero, putAll]
      go_frame
      have COPY3 : Hid (∀ {ops : Array Oper} {rest : List Oper} {a2 : Act} {Q : Exit → Act → World → Prop} {dst : Option Tmp} {ty : TypeId} {pos : String} {af : Array Edge} {x y : Operand}, a2.eval x = .slice (some ⟨S3, 28, none⟩) 484 484 → a2.eval y = .slice a10 4 d10 →
          (∀ w', w'.heap[S3]? = some (.cells (secA f.sector) 124) → Tch [S3] w7 w' → wpList Tryz.prog ops Q rest (a2.put dst (goInt 4)) w') → wpList Tryz.prog ops Q (⟨dst, .call { callee := .builtin .copy, args := #[x, y], argTypes := #[160, 160] }, ty, pos, af, none⟩ :: rest) a2 w7) := by
        intro ops rest a2 Q dst ty pos af x y hx hy h
        have hmin : Nat.min (be 4 f.check).length 484 = 4 := by rw [length_be]; rfl
        refine wc_copy_bytes (l := be 4 f.check) (dLen := 484) byteT S7.out (by rw [(bare f).h]; omega) H10.out hx (by rw [length_be]; exact hy) ?_
        rw [hmin]
        refine h _ ?_ ((Tch.refl [S3] _).setRow (.inl (by simp)) _)
        rw [setRow_heap _ _ _ _ _ _ S7.out]
        have e : (bare f).l.take 28 ++ (be 4 f.check).take 484 ++ (bare f).l.drop (28 + 4) = f.sector.l := by
          have h1 := f.length_head
          have hb : (bare f).l = f.head ++ ([0, 0, 0, 0] ++ f.page.l) := rfl
          rw [hb, List.take_of_length_le (l := be 4 f.check) (by rw [length_be]; omega), List.take_left' h1, ← List.drop_drop, List.drop_left' h1]
          show f.head ++ be 4 f.check ++ f.page.l = f.head ++ (be 4 f.check ++ f.page.l)
          rw [List.append_assoc]
        rw [e]
        rfl
      go_wp2_with (first | ((with_reducible apply COPY3.out); exact rfl; exact rfl; intro w8 hg8 ht8; go_frame; have S8 := Lib.hid hg8; have R8 := Lib.hid (ht8.heap R7.out (by simpa using hRS)); have T8 := Lib.hid (T7.out.trans ht8); clear hg8 ht8) | ((with_reducible apply wc_load_var secT S8.out); exact rfl; go_frame) | ((with_reducible apply wc_store_var secT R8.out); exact rfl; exact rfl; go_frame))
      refine bodyPost_ret (res_cell secT.agg rfl _ rfl (setRow_heap _ _ _ _ _ _ R8.out) (size_secA _)) rfl ?_
      have e0 := HXE.out
      have e1 := HS3.out
      have tw : Tch [] w w4 := HT.out.trans T4.out
      exact ⟨rfl, (tch_own tw T8.out (by simp; omega)).trans ((Tch.refl [] _).mono (by simp)) |>.setRow (.inr (by omega)) _⟩
end Go.Proofs.YtkjgbhpnlgcinaaGreatDoor
/-
  A page of numbers: package wal's numbers.
-/
namespace Go.Proofs.YtkjgbhpnlgcinaaGreatDoor
open Go.RowKit Go.Cib
/-- A slice of numbers of 32 bits. -/
def NumsAt (w : World) (a : Option Addr) (l : List Nat) : Prop := ∀ (j n : Nat), l[j]? = some n → ∃ b o : Nat, a = some ⟨b, o, none⟩ ∧ w.cell? ⟨b, o + j, none⟩ = some (.int .u32 n)
theorem NumsAt.later {w w' : World} {a : Option Addr} {l : List Nat} (h : NumsAt w a l) (ht : Tch [] w w') : NumsAt w' a l := by
  intro j n hj
  obtain ⟨b, o, e, hc⟩ := h j n hj
  exact ⟨b, o, e, cell_old ht hc⟩

set_option maxRecDepth 20000 in
set_option maxHeartbeats 2000000 in
theorem numbers_any {w : World} {a : Option Addr} {cap : Nat} {l : List Nat} (h : NumsAt w a l) (hl : l.length ≤ 1000) (hn : ∀ n ∈ l, n < 4294967296) :
    Calls Tryz.prog 116 #[.slice a l.length cap] w fun e w' => e = .returned (.agg (secA (numsPage l))) ∧ Tch [] w w' := by
  obtain ⟨w1, hw1⟩ : ∃ w1, (w.alloc (.cells (secA (Arr.zero : Page)) 54)).alloc (.cells (secA (Arr.zero : Page)) 54) = w1 := ⟨_, rfl⟩
  have HW1 := Lib.hid hw1
  have HH := Lib.hid h
  have HN := Lib.hid hn
  clear hw1 h hn
  obtain ⟨m, hm⟩ : ∃ m, l.length = m := ⟨_, rfl⟩
  rw [hm] at hl ⊢
  have HM := Lib.hid hm
  clear hm
  go_enter Tryz.func116, Tryz.ntmps116
  go_upto_region 2 with ((with_reducible refine wc_alloc_arr pageT ?_); go_frame; (try simp only [World.size_alloc]))
  rw [HW1.out]
  have hR : w1.heap[w.heap.size]? = some (.cells (secA (Arr.zero : Page)) 54) := by
    rw [← HW1.out, heap_alloc, if_neg (by simp), heap_alloc, if_pos rfl]
  have hP : w1.heap[w.heap.size + 1]? = some (.cells (secA (Arr.zero : Page)) 54) := by
    rw [← HW1.out, heap_alloc, if_pos (by simp)]
  have ht : Tch [] w w1 := by rw [← HW1.out]; exact ((Tch.refl _ _).alloc _).alloc _
  have R1 := Lib.hid hR
  have P1 := Lib.hid hP
  have T1 := Lib.hid ht
  clear hR hP ht HW1
  go_wp2_with fail
  go_loopg [4, 6, 9] m (fun q v _ i wr => ∃ j, OnAt m i q j ∧ BytesV wr v ((l.take j).flatMap fun n => be 4 n) ∧ Tch [] w1 wr)
  case atStart => exact ⟨0, ⟨Nat.zero_le _, rfl, rfl⟩, ⟨none, 0, rfl, bytesAt_nil _ _⟩, Tch.refl _ _⟩
  case round =>
    obtain ⟨j, ⟨hj, rfl, rfl⟩, ⟨va, vc, rfl, hv⟩, hT⟩ := hrel
    have HV := Lib.hid hv
    have HT := Lib.hid hT
    have hlen : ((l.take j).flatMap fun n => be 4 n).length = 4 * j := by
      rw [length_nums, List.length_take, HM.out]; omega
    have HLEN := Lib.hid hlen
    clear hv hT
    by_cases hjm : j < m
    · have hjl : j < l.length := by have := HM.out; omega
      have hx : l[j]? = some (l[j]'hjl) := List.getElem?_eq_getElem _
      generalize l[j]'hjl = n at *
      have hnb := HN.out n (List.mem_of_getElem? hx)
      obtain ⟨b, o, rfl, hc⟩ := (HH.out.later (T1.out.trans HT.out)) j n hx
      have HX := Lib.hid hx
      generalize hq : ((l.take j).flatMap fun n => be 4 n) = q at *
      have HQ := Lib.hid hq
      clear hq
      have CP := Lib.hid (put32_any (cap := vc) HV.out (by rw [hlen]; omega) n hnb)
      clear hlen hx
      go_wp2_with (go_at_call 112; refine CP.out.mono ?_; rintro e w5 ⟨v, rfl, q1, q2⟩; have V5 := Lib.hid q1; have T5 := Lib.hid (HT.out.trans q2); clear q1 q2)
      go_roundg (m - (j + 1))
      case measure => omega
      case rel =>
        refine ⟨j + 1, ⟨by omega, by go_num, rfl⟩, ?_, T5.out⟩
        have hx : l[j]? = some n := HX.out
        rw [List.take_add_one, hx, List.flatMap_append, HQ.out]
        have := V5.out
        simpa using this
    · have hfull : l.take j = l := List.take_of_length_le (by have := HM.out; omega)
      rw [hfull] at HV HLEN ⊢
      have HF := Lib.hid hfull
      clear hlen hfull
      generalize hq : (l.flatMap fun n => be 4 n) = q at *
      have HQ := Lib.hid hq
      have hql : q.length ≤ 4000 := by have := HLEN.out; omega
      have R2 := Lib.hid (HT.out.heap R1.out (by simp))
      have P2 := Lib.hid (HT.out.heap P1.out (by simp))
      clear hq HLEN
      have COPY : Hid (∀ {ops : Array Oper} {rest : List Oper} {a2 : Act} {Q : Exit → Act → World → Prop} {dst : Option Tmp} {ty : TypeId} {pos : String} {af : Array Edge} {x y : Operand}, a2.eval x = .slice (some ⟨w.heap.size + 1, 0, none⟩) 480 480 → a2.eval y = .slice va q.length vc →
          (∀ n w', w'.heap[w.heap.size + 1]? = some (.cells (secA (numsPage l)) 54) → Tch [w.heap.size + 1] wr w' → wpList Tryz.prog ops Q rest (a2.put dst (goInt n)) w') → wpList Tryz.prog ops Q (⟨dst, .call { callee := .builtin .copy, args := #[x, y], argTypes := #[160, 160] }, ty, pos, af, none⟩ :: rest) a2 wr) := by
        intro ops rest a2 Q dst ty pos af x y hx hy h
        refine wc_copy_bytes (l := q) (dLen := 480) byteT P2.out (by rw [(Arr.zero : Page).h]; omega) HV.out hx hy ?_
        refine h _ _ ?_ ((Tch.refl [w.heap.size + 1] _).setRow (.inl (by simp)) _)
        rw [setRow_heap _ _ _ _ _ _ P2.out]
        have e : (Arr.zero : Page).l.take 0 ++ q.take 480 ++ (Arr.zero : Page).l.drop (0 + Nat.min q.length 480) = (numsPage l).l := by
          unfold numsPage
          rw [HQ.out]
          show [] ++ q.take 480 ++ (List.replicate 480 (0 : UInt8)).drop (0 + Nat.min q.length 480) = q.take 480 ++ List.replicate (480 - q.length) 0
          rw [List.nil_append, List.drop_replicate, Nat.zero_add]
          congr 2
          show 480 - min q.length 480 = 480 - q.length
          omega
        rw [e]
        rfl
      have hBQ : w.heap.size + 1 ≠ w.heap.size := by omega
      go_wp2_with (first | ((with_reducible apply COPY.out); exact rfl; exact rfl; intro nn w8 hg8 ht8; go_frame; have P8 := Lib.hid hg8; have R8 := Lib.hid (ht8.heap R2.out (by simp)); have T8 := Lib.hid (HT.out.mono (S' := [w.heap.size + 1]) (by simp) |>.trans ht8); clear hg8 ht8) | ((with_reducible apply wc_load_var pageT P8.out); exact rfl; go_frame) | ((with_reducible apply wc_store_var pageT R8.out); exact rfl; exact rfl; go_frame))
      refine bodyPost_ret (res_cell pageT.agg rfl _ rfl (setRow_heap _ _ _ _ _ _ R8.out) (size_secA _)) rfl ?_
      exact ⟨rfl, (tch_own T1.out T8.out (by simp)).setRow (.inr (by omega)) _⟩
end Go.Proofs.YtkjgbhpnlgcinaaGreatDoor
/-
  One number of a page: package wal's number.
-/
namespace Go.Proofs.YtkjgbhpnlgcinaaGreatDoor
open Go.RowKit Go.Cib

set_option maxRecDepth 20000 in
set_option maxHeartbeats 2000000 in
theorem pnumber_any (p : Page) (i : Nat) (hi : i < 120) (w : World) : Calls Tryz.prog 119 #[.agg (secA p), .int .i64 i] w fun e w' => e = .returned (.int .u32 (numAt p i)) ∧ Tch [] w w' := by
  obtain ⟨w1, hw1⟩ : ∃ w1, w.alloc (.cells (secA p) 54) = w1 := ⟨_, rfl⟩
  have hB : w1.heap[w.heap.size]? = some (.cells (secA p) 54) := by
    rw [← hw1, heap_alloc, if_pos rfl]
  have ht : Tch [] w w1 := by rw [← hw1]; exact (Tch.refl _ _).alloc _
  have HW1 := Lib.hid hw1
  have HT := Lib.hid ht
  have hl : (p.l.drop (4 * i)).length = 480 - 4 * i := by rw [List.length_drop, p.h]
  have CR : Hid (Calls Tryz.prog 110 #[.slice (some ⟨w.heap.size, 4 * i, none⟩) (480 - 4 * i) (480 - 4 * i)] w1 (ReaderOut w1 (p.l.drop (4 * i)))) := by
    have h := octRead_any (w := w1) (ad := ⟨w.heap.size, 4 * i, none⟩) (cap := 480 - 4 * i) (bytesAt_row hB (4 * i)) (by intro e; rw [e] at hl; simp at hl; omega) (by omega)
    rw [hl] at h
    exact h
  have HL := Lib.hid hl
  clear hw1 hB ht hl
  go_enter Tryz.func119, Tryz.ntmps119
  go_wp2_with (first | ((with_reducible refine wc_box_agg ?_ ?_); exact rfl; go_frame; rw [HW1.out]))
  rw [run_sliceAt_array_l _ _ _ (by kernel_rfl) _ _ (by omega) (by show _ ≤ ((480 : Nat) : Int); omega)]
  have hsz : ∀ W : World, (sizeOf (Tryz.prog.elem 54)).run Tryz.prog W = .ok 1 W := by
    intro W
    obtain ⟨j, hj, _, hs, _⟩ := byteT.info
    rw [show Tryz.prog.elem 54 = 5 from by kernel_rfl]
    simp [sizeOf, typeInfo, hj, hs]
  have hsl : slicedAt ⟨w.heap.size, 0, none⟩ (4 * (i : Int)).toNat (Tryz.prog.arrayLen 54) (Tryz.prog.arrayLen 54) 1 = .slice (some ⟨w.heap.size, 4 * i, none⟩) (480 - 4 * i) (480 - 4 * i) := by
    rw [show Tryz.prog.arrayLen 54 = 480 from by kernel_rfl, show (4 * (i : Int)).toNat = 4 * i by omega]
    unfold slicedAt
    rw [if_neg (by omega), add_mk, Nat.mul_one, Nat.zero_add]
  rw [hsz, HW1.out]
  simp only [Result.andThen, hsl]
  clear hsz hsl
  go_wp2_with fail
  refine CR.out.mono ?_
  rintro e w2 ⟨r, b, o, cap, rfl, hr, hrn, ht2⟩
  have R2 := Lib.hid hr
  have T2 := Lib.hid (HT.out.trans ht2)
  have T1s := HT.out.size
  clear hr ht2 CR
  go_wp2_with fail
  refine (octU32_any R2.out (by rw [HL.out]; omega)).mono ?_
  rintro e w3 ⟨rfl, _, ht3⟩
  have T3 := Lib.hid (tch_own T2.out ht3 (by simp; omega))
  clear ht3
  go_wp2_with fail
  refine bodyPost_ret (results_tmp rfl _ _ _) rfl ?_
  exact ⟨rfl, T3.out⟩
end Go.Proofs.YtkjgbhpnlgcinaaGreatDoor
/-
  Frames read: package wal's read.
-/
namespace Go.Cib
open Go Go.RowKit
def FrameV.zero : FrameV := ⟨0, 0, 0, 0, Arr.zero⟩
/-- T is the type of frames. -/
structure FrameT (P : Program) (T : TypeId) : Prop where
  agg : AggT P T 484
  info : ∃ i, P.info? T = some i ∧ i.zero = some (.agg (frameA FrameV.zero))
section
variable {P : Program} {T e : TypeId} {ops : Array Oper} {rest : List Oper} {a : Act} {w : World} {Q : Exit → Act → World → Prop} {C : World → Prop} {Qs : Act → Prop} {dst : Option Tmp} {ty : TypeId} {pos : String} {af : Array Edge} {x y : Operand} {gd : Option (Nat × Bool)}
theorem frame_all (f : FrameV) : (frameA f).extract 0 (0 + 484) = frameA f := by
  have h2 := Array.extract_size (xs := frameA f)
  rw [size_frameA] at h2
  rw [Nat.zero_add]; exact h2
theorem spl_frame (f g : FrameV) : spl (frameA f) 0 (frameA g) = frameA g := by
  apply Array.toList_inj.1
  simp only [spl, List.take_zero, List.nil_append, size_frameA, Nat.zero_add]
  rw [List.drop_of_length_le (by rw [Array.length_toList, size_frameA]; omega), List.append_nil]
theorem exec_load_frame (hT : FrameT P T) {b : Nat} {f : FrameV} {fr : Nat × Nat} {o : Oper} (ho : o.op = .load T x) (hb : w.heap[b]? = some (.cells (frameA f) e fr)) (hx : a.eval x = .pointer (some ⟨b, 0, none⟩)) :
    (execOp a.eval o).run P w = .ok (.value (.agg (frameA f))) w := by
  rw [exec_load_agg hT.agg ho hx hb (by rw [size_frameA]; omega), frame_all]
theorem wc_store_frame (hT : FrameT P T) {b : Nat} {f g : FrameV} (hb : w.heap[b]? = some (.cells (frameA f) e)) (hx : a.eval x = .pointer (some ⟨b, 0, none⟩)) (hy : a.eval y = .agg (frameA g))
    (h : wpList P ops Q rest (a.put dst undef) (w.setRow b (frameA g))) : wpList P ops Q (⟨dst, .store T x y, ty, pos, af, none⟩ :: rest) a w := by
  refine wc_done rfl ?_ h
  rw [exec_store_agg hT.agg rfl hx hy (size_frameA g) (frameA_one g) hb (by rw [size_frameA]; omega), spl_frame]
theorem wc_alloc_frame (hT : FrameT P T) (h : wpList P ops Q rest (a.put dst (.pointer (some ⟨w.heap.size, 0, none⟩))) (w.alloc (.cells (frameA FrameV.zero) T))) :
    wpList P ops Q (⟨dst, .alloc T, ty, pos, af, none⟩ :: rest) a w := by
  obtain ⟨i, h1, h2⟩ := hT.info
  exact wc_value rfl (exec_alloc h1 h2 rfl) h
theorem wq_load_frame (hT : FrameT P T) {b : Nat} {f : FrameV} {fr : Nat × Nat} (hb : ∀ w, C w → w.heap[b]? = some (.cells (frameA f) e fr)) (hw : Region.wanted ⟨dst, .load T x, ty, pos, af, gd⟩ (yielded ops a.tmps) = true) (hx : a.eval x = .pointer (some ⟨b, 0, none⟩))
    (h : wpQuiet P ops C Qs rest (a.put dst (.agg (frameA f)))) : wpQuiet P ops C Qs (⟨dst, .load T x, ty, pos, af, gd⟩ :: rest) a :=
  wq_value hw (fun w hc => exec_load_frame hT rfl (hb w hc) hx) h
/-- 'copy' of bytes into a frame's page. -/
theorem wc_copy_page {U S2 : TypeId} (hT : ByteT P U e) {g : Nat} {f : FrameV} {t : TypeId} (hg : w.heap[g]? = some (.cells (frameA f) t)) {ad : Option Addr} {sCap : Nat} {p : Page} (hl : BytesAt w ad p.l)
    (hx : a.eval x = .slice (some ⟨g, 4, none⟩) 480 480) (hy : a.eval y = .slice ad 480 sCap)
    (h : wpList P ops Q rest (a.put dst (goInt 480)) (w.setRow g (frameA { f with page := p }))) :
    wpList P ops Q (⟨dst, .call { callee := .builtin .copy, args := #[x, y], argTypes := #[U, S2] }, ty, pos, af, none⟩ :: rest) a w := by
  obtain ⟨i, hi, _, hs, _⟩ := hT.info
  have hsz : (P.info? e).map (·.size) = some 1 := by rw [hi]; simp [hs]
  obtain ⟨b0, o0, rfl, _⟩ := hl 0 (p.l[0]'(by rw [p.h]; omega)) (List.getElem?_eq_getElem _)
  have hrun := run_copy_row (P := P) w U S2 ty e g 4 480 480 ⟨b0, o0, none⟩ 480 sCap (frameA f) t (p.l.map bv) hT.und hsz hg (by rw [List.length_map, p.h]; rfl) (by
    intro j v hj
    rw [List.getElem?_map] at hj
    obtain ⟨x, hx, rfl⟩ := Option.map_eq_some_iff.1 hj
    obtain ⟨b1, o1, e1, hc⟩ := hl j x hx
    cases e1
    rw [add_mk]; exact hc) (by rw [List.length_map, p.h, size_frameA]; omega) (by
    intro v hv
    obtain ⟨x, _, rfl⟩ := List.mem_map.1 hv
    rfl)
  have hrow : ((frameA f).toList.take 4 ++ p.l.map bv ++ (frameA f).toList.drop (4 + (p.l.map bv).length)).toArray = frameA { f with page := p } := by
    apply Array.toList_inj.1
    have h4 : (frameA f).toList.take 4 = [bv f.kind, .int .u64 f.gen, .int .u64 f.num, .int .u32 f.idx] := by simp [frameA]
    rw [h4, List.drop_of_length_le (by rw [Array.length_toList, size_frameA, List.length_map, p.h]; omega), List.append_nil]
    simp [frameA, secA, bytesA]
  rw [hrow, List.length_map, p.h] at hrun
  refine wc_value rfl ?_ h
  unfold execOp
  simp [resolve, invoke, builtin, hx, hy, hrun, Result.andThen]
theorem frame_set1 (f : FrameV) (n : Nat) : (frameA f).setIfInBounds 1 (.int .u64 n) = frameA { f with gen := n } := by
  unfold frameA; rw [Array.setIfInBounds_append_left (by simp)]; rfl
theorem frame_set2 (f : FrameV) (n : Nat) : (frameA f).setIfInBounds 2 (.int .u64 n) = frameA { f with num := n } := by
  unfold frameA; rw [Array.setIfInBounds_append_left (by simp)]; rfl
theorem frame_set3 (f : FrameV) (n : Nat) : (frameA f).setIfInBounds 3 (.int .u32 n) = frameA { f with idx := n } := by
  unfold frameA; rw [Array.setIfInBounds_append_left (by simp)]; rfl
end
end Go.Cib
namespace Go.Proofs.YtkjgbhpnlgcinaaGreatDoor
open Go.RowKit Go.Cib
theorem frameTT : FrameT Tryz.prog 155 := by
  refine ⟨frameT, ?_⟩
  have h : (Tryz.prog.info? 155).map (·.zero) = some (some (.agg (frameA FrameV.zero))) := by kernel_rfl
  obtain ⟨d, h1, h2⟩ := Option.map_eq_some_iff.1 h
  exact ⟨d, h1, h2⟩
end Go.Proofs.YtkjgbhpnlgcinaaGreatDoor
/-
  A sector's frame: package wal's read.
-/
namespace Go.Cib
open Go Go.RowKit
def kindF (k : UInt8) : FrameV := ⟨k, 0, 0, 0, Arr.zero⟩
theorem frame_set0 (f : FrameV) (k : UInt8) : (frameA f).setIfInBounds 0 (bv k) = frameA { f with kind := k } := by
  unfold frameA; rw [Array.setIfInBounds_append_left (by simp)]; rfl
theorem exec_store_frame {P : Program} {T e : TypeId} {a : Act} {w : World} {x y : Operand} (hT : FrameT P T) {b : Nat} {f g : FrameV} {o : Oper} (ho : o.op = .store T x y) (hb : w.heap[b]? = some (.cells (frameA f) e)) (hx : a.eval x = .pointer (some ⟨b, 0, none⟩)) (hy : a.eval y = .agg (frameA g)) :
    (execOp a.eval o).run P w = .ok .skip (w.setRow b (frameA g)) := by
  rw [exec_store_agg hT.agg ho hx hy (size_frameA g) (frameA_one g) hb (by rw [size_frameA]; omega), spl_frame]
theorem stpR_skip {P : Program} {K : Value → World → Prop} {r : Result Next} {w : World} (h : r = .ok .skip w) (hK : K undef w) : StpR P K r := by rw [h]; exact hK
end Go.Cib
namespace Go.Proofs.YtkjgbhpnlgcinaaGreatDoor
open Go.RowKit Go.Cib
theorem run_build_frame (k : Int) (w : World) : (Instr.build 155 #[(0, .int .u8 k)]).run Tryz.prog w = .ok (.agg ((frameA FrameV.zero).setIfInBounds 0 (.int .u8 k))) w := by kernel_rfl
theorem exec_build_frame {a : Act} {w : World} {dst : Option Tmp} {ty : TypeId} {pos : String} {af : Array Edge} {x : Operand} {gd : Option (Nat × Bool)} {k : UInt8} (hx : a.eval x = .int .u8 k.toNat) :
    (execOp a.eval ⟨dst, .build 155 #[(0, x)], ty, pos, af, gd⟩).run Tryz.prog w = .ok (.value (.agg (frameA (kindF k)))) w := by
  have h := run_build_frame k.toNat w
  have e : (frameA FrameV.zero).setIfInBounds 0 (.int .u8 k.toNat) = frameA (kindF k) := frame_set0 FrameV.zero k
  rw [e] at h
  unfold execOp
  simp [hx, h]
theorem wc_build_frame {ops : Array Oper} {rest : List Oper} {a : Act} {w : World} {Q : Exit → Act → World → Prop} {dst : Option Tmp} {ty : TypeId} {pos : String} {af : Array Edge} {x : Operand} {k : UInt8} (hx : a.eval x = .int .u8 k.toNat)
    (h : wpList Tryz.prog ops Q rest (a.put dst (.agg (frameA (kindF k)))) w) : wpList Tryz.prog ops Q (⟨dst, .build 155 #[(0, x)], ty, pos, af, none⟩ :: rest) a w :=
  wc_value rfl (exec_build_frame hx) h
set_option maxRecDepth 20000 in
theorem cf_sector (args : Array Value) (w : World) : (callFunc 115 args).run Tryz.prog w = .ok (.enter 115 args) w := rfl

set_option maxRecDepth 20000 in
set_option maxHeartbeats 2000000 in
theorem wread_any (s : Sec) (w : World) : Calls Tryz.prog 109 #[.agg (secA s)] w fun e w' => e = .returned (.tuple #[.agg (frameA (parse s)), .bool (decide ((parse s).sector = s))]) ∧ Tch [] w w' := by
  obtain ⟨w1, hw1⟩ : ∃ w1, (w.alloc (.cells (secA s) 124)).alloc (.cells (frameA FrameV.zero) 155) = w1 := ⟨_, rfl⟩
  have HW1 := Lib.hid hw1
  clear hw1
  go_enter Tryz.func109, Tryz.ntmps109
  go_upto_region 1 with (first | ((with_reducible refine wc_box_agg ?_ ?_); exact rfl; go_frame) | ((with_reducible refine wc_alloc_frame frameTT ?_); go_frame; (try simp only [World.size_alloc])))
  rw [HW1.out]
  have hB : w1.heap[w.heap.size]? = some (.cells (secA s) 124) := by
    rw [← HW1.out, heap_alloc, if_neg (by simp), heap_alloc, if_pos rfl]
  have hR : w1.heap[w.heap.size + 1]? = some (.cells (frameA FrameV.zero) 155) := by
    rw [← HW1.out, heap_alloc, if_pos (by simp)]
  have ht : Tch [] w w1 := by rw [← HW1.out]; exact ((Tch.refl _ _).alloc _).alloc _
  have CR : Hid (Calls Tryz.prog 110 #[.slice (some ⟨w.heap.size, 4, none⟩) 508 508] w1 (ReaderOut w1 (s.l.drop 4))) := by
    have hl : (s.l.drop 4).length = 508 := by rw [List.length_drop, s.h]
    have h := octRead_any (w := w1) (ad := ⟨w.heap.size, 4, none⟩) (cap := 508) (bytesAt_row hB 4) (by intro e; rw [e] at hl; simp at hl) (by omega)
    rw [hl] at h
    exact h
  have HB := Lib.hid hB
  have HR := Lib.hid hR
  have HT := Lib.hid ht
  have hnR : w.heap.size + 1 < w1.heap.size := lt_of_heap hR
  clear hB hR ht HW1
  go_wp2_with fail
  refine CR.out.mono ?_
  rintro e w2 ⟨r, b, o, cap, rfl, hr, hrn, ht2⟩
  have hrlt := lt_of_heap hr.hr
  have HL : Hid ((s.l.drop 4).length = 508) := by show _ = _; rw [List.length_drop, s.h]
  have R2 := Lib.hid hr
  have T2 := Lib.hid ht2
  have B2 := Lib.hid (ht2.heap HB.out (by simp))
  have Q2 := Lib.hid (ht2.heap HR.out (by simp))
  clear hr ht2 CR HB HR
  go_wp2_with fail
  refine (octU8_any R2.out (by rw [HL.out]; omega)).mono ?_
  rintro e w3 ⟨rfl, hr3, ht3⟩
  generalize hk : (s.l.drop 4).getD 0 0 = kd
  have HKD := Lib.hid hk
  have hrlt3 : r < w3.heap.size := lt_of_heap hr3.hr
  have blt3 : b < w3.heap.size := by
    obtain ⟨b', o', e, hc⟩ := hr3.hb 0 ((s.l.drop 4)[0]'(by rw [HL.out]; omega)) (List.getElem?_eq_getElem _)
    cases e
    exact block_lt_of_cell hc
  have R3 := Lib.hid hr3
  have B3 := Lib.hid (ht3.heap B2.out (by simp; omega))
  have Q3 := Lib.hid (ht3.heap Q2.out (by simp; omega))
  have T3 := Lib.hid (tch_own (HT.out.trans T2.out) ht3 (by have := HT.out.size; simp; omega))
  clear hr3 ht3 hk R2 B2 Q2
  go_wp2_with (first | ((with_reducible refine wc_build_frame (k := kd) ?_ ?_); exact rfl; go_frame) | ((with_reducible refine wc_alloc_frame frameTT ?_); go_frame) | ((with_reducible apply wc_store_frame frameTT (heap_alloc_new w3 (.cells (frameA FrameV.zero) 155)) (g := kindF kd)); exact rfl; exact rfl; go_frame; rw [setRow_alloc_new]))
  have hF : (w3.alloc (.cells (frameA (kindF kd)) 155)).heap[w3.heap.size]? = some (.cells (frameA (kindF kd)) 155) := heap_alloc_new _ _
  have ta : Tch [] w3 (w3.alloc (.cells (frameA (kindF kd)) 155)) := (Tch.refl _ _).alloc _
  have F4 := Lib.hid hF
  have R4 := Lib.hid (R3.out.touch ta (by simp) (by simp))
  have B4 := Lib.hid (ta.heap B3.out (by simp))
  have Q4 := Lib.hid (ta.heap Q3.out (by simp))
  have T4 := Lib.hid (T3.out.trans ta)
  have hFw : w.heap.size ≤ w3.heap.size := T3.out.size
  clear hF ta R3 B3 Q3 T3
  generalize w3.alloc (.cells (frameA (kindF kd)) 155) = w4 at *
  obtain ⟨F, hFe⟩ : ∃ F, w3.heap.size = F := ⟨_, rfl⟩
  rw [hFe] at F4 hrlt3 blt3 hFw ⊢
  clear hFe
  have hrw : w.heap.size ≤ r := by have := HT.out.size; omega
  have hBr : w.heap.size ≠ r := by omega
  have hQr : w.heap.size + 1 ≠ r := by omega
  refine (raw_any R4.out 3 (by omega) (by rw [HL.out]; omega)).mono ?_
  rintro e w5 ⟨⟨v, rfl⟩, hr5, ht5⟩
  have R5 := Lib.hid hr5
  have T5 := Lib.hid ht5
  clear hr5 ht5 R4
  go_wp2_with fail
  refine (octU64_any R5.out (by rw [HL.out]; omega)).mono ?_
  rintro e w6 ⟨rfl, hr6, ht6⟩
  have R6 := Lib.hid hr6
  have T6 := Lib.hid (T5.out.trans ht6)
  clear hr6 ht6 R5 T5
  go_wp2_with fail
  refine (octU64_any R6.out (by rw [HL.out]; omega)).mono ?_
  rintro e w7 ⟨rfl, hr7, ht7⟩
  have R7 := Lib.hid hr7
  have T7 := Lib.hid (T6.out.trans ht7)
  clear hr7 ht7 R6 T6
  go_wp2_with fail
  refine (octU32_any R7.out (by rw [HL.out]; omega)).mono ?_
  rintro e w8 ⟨rfl, _, ht8⟩
  have hT8 : Tch [r] w4 w8 := T7.out.trans ht8
  have hF8 := hT8.heap F4.out (by simp; omega)
  have B8 := Lib.hid (hT8.heap B4.out (by simpa using hBr))
  have Q8 := Lib.hid (hT8.heap Q4.out (by simpa using hQr))
  have T8 := Lib.hid (tch_own T4.out hT8 (by simpa using hrw))
  generalize hg3 : beVal (((s.l.drop 4).drop (0 + 1 + 3 + 8 + 8)).take 4) = n3
  have G3 := Lib.hid hg3
  have c1 := cell_of_row w8 F 1 _ _ _ hF8
  have c2 := cell_of_row w8 F 2 _ _ _ hF8
  have c3 := cell_of_row w8 F 3 _ _ _ hF8
  have f1 := frozen_of_row w8 F 1 _ _ hF8
  have f2 := frozen_of_row w8 F 2 _ _ hF8
  have f3 := frozen_of_row w8 F 3 _ _ hF8
  have fr : ∀ j : Nat, j < 4 → (frameA (kindF kd))[j]? = (#[bv kd, .int .u64 0, .int .u64 0, .int .u32 0] : Array Value)[j]? := by
    intro j hj
    unfold frameA
    rw [Array.getElem?_append_left (by simpa using hj)]
    rfl
  rw [fr 1 (by omega)] at c1
  rw [fr 2 (by omega)] at c2
  rw [fr 3 (by omega)] at c3
  simp only [List.getElem?_toArray, List.getElem?_cons_zero, List.getElem?_cons_succ] at c1 c2 c3
  have F8 := Lib.hid hF8
  clear hF8 fr hT8 ht8 R7 T7 hg3 B4 Q4 T4 F4
  go_upto_region 5 with fail
  generalize hg1 : beVal (List.take 8 (List.drop 8 s.l)) = n1
  generalize hg2 : beVal (List.take 8 (List.drop 16 s.l)) = n2
  have G1 := Lib.hid hg1
  have G2 := Lib.hid hg2
  clear hg1 hg2 c1 c2 c3 f1 f2 f3
  have tq : Tch [F] w8 (((w8.setCell ⟨F, 1, none⟩ (.int .u64 n1)).setCell ⟨F, 2, none⟩ (.int .u64 n2)).setCell ⟨F, 3, none⟩ (.int .u32 n3)) := (((Tch.refl _ _).setCell (by simp) _).setCell (by simp) _).setCell (by simp) _
  have hF9 : (((w8.setCell ⟨F, 1, none⟩ (.int .u64 n1)).setCell ⟨F, 2, none⟩ (.int .u64 n2)).setCell ⟨F, 3, none⟩ (.int .u32 n3)).heap[F]? = some (.cells (frameA ⟨kd, n1, n2, n3, Arr.zero⟩) 155) := by
    rw [heap_setCell_cells (heap_setCell_cells (heap_setCell_cells F8.out _ _) _ _) _ _, frame_set1, frame_set2, frame_set3]
    rfl
  have hBF : w.heap.size ≠ F := by omega
  have hQF : w.heap.size + 1 ≠ F := by omega
  have F9 := Lib.hid hF9
  have B9 := Lib.hid (tq.heap B8.out (by simpa using hBF))
  have Q9 := Lib.hid (tq.heap Q8.out (by simpa using hQF))
  have T9 := Lib.hid (tch_own T8.out tq (by simpa using hFw))
  clear tq hF9 F8 B8 Q8 T8
  generalize ((w8.setCell ⟨F, 1, none⟩ (.int .u64 n1)).setCell ⟨F, 2, none⟩ (.int .u64 n2)).setCell ⟨F, 3, none⟩ (.int .u32 n3) = w9 at *
  (refine wp_region_walk (C := fun w' => ∃ n, w' = World.drewN w9 n) 3 (by kernel_rfl) (by kernel_rfl) ⟨1, rfl⟩ ?_; simp only [List.take_succ_cons, List.take_zero, List.drop_succ_cons, List.drop_zero]; (repeat (first | fail | go_big_quiet_step (fail))); refine wpQuiet_nil ?_; intro _ hw'; obtain ⟨nq, hw''⟩ := hw'; subst hw'')
  have hp : parse s = ⟨kd, n1, n2, n3, ⟨s.l.drop 32, by rw [List.length_drop, s.h]⟩⟩ := by
    refine FrameV.ext' ?_ G1.out G2.out ?_ rfl
    · show s.l.getD 4 0 = kd
      rw [← HKD.out]
      simp [List.getD_eq_getElem?_getD, List.getElem?_drop]
    · show beVal ((s.l.drop 24).take 4) = n3
      rw [← G3.out, List.drop_drop]
  have HPS := Lib.hid hp
  clear hp
  have COPY : Hid (∀ {ops : Array Oper} {rest : List Oper} {a2 : Act} {Q : Exit → Act → World → Prop} {dst : Option Tmp} {ty : TypeId} {pos : String} {af : Array Edge} {x y : Operand}, a2.eval x = .slice (some ⟨F, 4, none⟩) 480 480 → a2.eval y = .slice (some ⟨w.heap.size, 32, none⟩) 480 480 →
      (∀ w', w'.heap[F]? = some (.cells (frameA (parse s)) 155) → Tch [F] w9 w' → wpList Tryz.prog ops Q rest (a2.put dst (goInt 480)) w') → wpList Tryz.prog ops Q (⟨dst, .call { callee := .builtin .copy, args := #[x, y], argTypes := #[160, 160] }, ty, pos, af, none⟩ :: rest) a2 (w9.drewN nq)) := by
    intro ops rest a2 Q dst ty pos af x y hx hy h
    have hS : (w9.drewN nq).heap[F]? = some (.cells (frameA ⟨kd, n1, n2, n3, Arr.zero⟩) 155) := drewN_heap F9.out _ ⟨nq, rfl⟩
    refine wc_copy_page byteT hS (p := ⟨s.l.drop 32, by rw [List.length_drop, s.h]⟩) (bytesAt_row (drewN_heap B9.out _ ⟨nq, rfl⟩) 32) hx hy ?_
    refine h _ ?_ (((tch_drewN w9 nq).mono (by simp)).setRow (.inl (by simp)) _)
    rw [setRow_heap _ _ _ _ _ _ hS, HPS.out]
  go_upto_region 6 with ((with_reducible apply COPY.out); exact rfl; exact rfl; intro w10 hg10 ht10; go_frame; have F10 := Lib.hid hg10; have B10 := Lib.hid (ht10.heap B9.out (by simpa using hBF)); have Q10 := Lib.hid (ht10.heap Q9.out (by simpa using hQF)); have T10 := Lib.hid (tch_own T9.out ht10 (by simpa using hFw)); clear hg10 ht10)
  obtain ⟨R, hRe⟩ : ∃ R, w.heap.size + 1 = R := ⟨_, rfl⟩
  rw [hRe] at Q10 hQF ⊢
  have hRw : w.heap.size ≤ R := by omega
  have hBR : w.heap.size ≠ R := by omega
  clear hRe
  have CS : Hid (∀ w', Calls Tryz.prog 115 #[.agg (frameA (parse s))] w' fun e w'' => e = .returned (.agg (secA (parse s).sector)) ∧ Tch [] w' w'') := fun w' => sector_any (parse s) (parse_ok s) w'
  have LF : Hid (∀ w', Tch [R] w10 w' → w'.heap[F]? = some (.cells (frameA (parse s)) 155)) := fun w' h => h.heap F10.out (by simpa using Ne.symm hQF)
  have LB : Hid (∀ w', Tch [R] w10 w' → w'.heap[w.heap.size]? = some (.cells (secA s) 124)) := fun w' h => h.heap B10.out (by simpa using hBR)
  refine wp_region_one 7 5 [.agg (frameA (parse s)), .agg (frameA (parse s)), .agg (secA (parse s).sector), .agg (secA s), .bool (decide ((parse s).sector = s)), undef, .bool (decide ((parse s).sector = s))] _
    (fun b w' => Tch [R] w10 w' ∧ w'.heap[R]? = some (.cells (frameA (cond b (parse s) FrameV.zero)) 155)) (by kernel_rfl) (by kernel_rfl) rfl
    (by simp only [putAll, List.take_succ_cons, List.take_zero]; go_frame; exact rfl) (by decide) ⟨(Tch.refl _ _).drew, Q10.out⟩ ?_ ?_ ?_
  · intro b
    simp only [List.take_succ_cons, List.take_zero]
    refine stepsBut_cons (stepOk_value rfl fun W hW => exec_load_frame frameTT rfl (LF.out W hW.1) rfl) (stepsBut_cons (stepOk_value rfl fun W hW => exec_load_frame frameTT rfl (LF.out W hW.1) rfl) (stepsBut_cons (stepOk_call (f := 115) (args := #[.agg (frameA (parse s))]) rfl (fun W => ?_) (fun W hW => ?_)) (stepsBut_cons (stepOk_value rfl fun W hW => exec_load_var secT rfl (LB.out W hW.1) rfl) (stepsBut_cons (stepOk_value rfl fun W hW => ?_) (stepsBut_here (stepsOk_cons (stepOk_value rfl fun W hW => ?_) stepsOk_nil))))))
    · go_simp
    · refine (CS.out W).mono ?_
      rintro e w' ⟨rfl, h2⟩
      exact ⟨rfl, hW.1.trans (h2.mono (by simp)), h2.heap hW.2 (by simp)⟩
    · rw [exec_eql_bytes secT rfl (xs := (parse s).sector.l) (ys := s.l) rfl rfl (parse s).sector.h s.h, decide_arr]
    · rfl
  · intro o W ho hW
    simp only [List.getElem?_cons_zero, List.getElem?_cons_succ, Option.some.injEq] at ho
    subst ho
    refine ⟨rfl, ?_⟩
    exact stpR_skip (exec_store_frame (g := parse s) frameTT rfl hW.2 rfl rfl) ⟨rfl, hW.1.setRow (.inl (by simp)) _, setRow_heap _ _ _ _ _ _ hW.2⟩
  intro wZ hZ
  have F11 := Lib.hid hZ.2
  have T11 := Lib.hid (tch_own T10.out hZ.1 (by simpa using hRw))
  clear hZ
  simp only [List.drop_succ_cons, List.drop_zero]
  go_wp2_with fail
  refine bodyPost_ret (res_cell_tmp frameT rfl _ rfl F11.out (size_frameA _)) rfl ?_
  exact ⟨rfl, T11.out⟩
end Go.Proofs.YtkjgbhpnlgcinaaGreatDoor
