/-
  A record is written: package wal's write.
-/
import Derived.Test.YthbaipljlbddcaaGreatLogJ
namespace Go.Cib
open Go Go.RowKit
section
variable {P : Program} {T e : TypeId} {ops : Array Oper} {rest : List Oper} {a : Act} {w : World} {Q : Exit → Act → World → Prop} {dst : Option Tmp} {ty : TypeId} {pos : String} {af : Array Edge} {x y : Operand}
theorem wc_alloc_img (hz : ∃ i, P.info? T = some i ∧ i.zero = some (.agg (imageA 0 Arr.zero))) (h : wpList P ops Q rest (a.put dst (.pointer (some ⟨w.heap.size, 0, none⟩))) (w.alloc (.cells (imageA 0 Arr.zero) T))) :
    wpList P ops Q (⟨dst, .alloc T, ty, pos, af, none⟩ :: rest) a w := by
  obtain ⟨i, h1, h2⟩ := hz
  generalize imageA 0 Arr.zero = z at *
  exact wc_value rfl (exec_alloc h1 h2 rfl) h
theorem spl_img (n m : Int) (p q : Page) : spl (imageA n p) 0 (imageA m q) = imageA m q := by
  apply Array.toList_inj.1
  simp only [spl, List.take_zero, List.nil_append, size_imageA, Nat.zero_add]
  rw [List.drop_of_length_le (by rw [Array.length_toList, size_imageA]; omega), List.append_nil]
theorem wc_store_img (hT : AggT P T 481) {n m : Int} {p q : Page} {b : Nat} {e' : TypeId} (hb : w.heap[b]? = some (.cells (imageA n p) e')) (hx : a.eval x = .pointer (some ⟨b, 0, none⟩)) (hy : a.eval y = .agg (imageA m q))
    (h : wpList P ops Q rest (a.put dst undef) (w.setRow b (imageA m q))) : wpList P ops Q (⟨dst, .store T x y, ty, pos, af, none⟩ :: rest) a w := by
  refine wc_done rfl ?_ h
  rw [exec_store_agg hT rfl hx hy (size_imageA m q) (imageA_one m q) hb (by rw [size_imageA]; omega), spl_img]
theorem wc_store_img_new (hT : AggT P T 481) {n m : Int} {p q : Page} {e' : TypeId} {w0 : World} (hx : a.eval x = .pointer (some ⟨w0.heap.size, 0, none⟩)) (hy : a.eval y = .agg (imageA m q))
    (h : wpList P ops Q rest (a.put dst undef) (w0.alloc (.cells (imageA m q) e'))) : wpList P ops Q (⟨dst, .store T x y, ty, pos, af, none⟩ :: rest) a (w0.alloc (.cells (imageA n p) e')) := by
  refine wc_store_img hT (heap_alloc_new w0 _) hx hy ?_
  rw [setRow_alloc_new]; exact h
end
theorem cell_img0 {w : World} {b : Nat} {n : Int} {p : Page} {e : TypeId} {fr : Nat × Nat} (h : w.heap[b]? = some (.cells (imageA n p) e fr)) : w.cell? ⟨b, 0, none⟩ = some (.int .i64 n) := by
  rw [cell_of_row w b 0 _ _ _ h]
  unfold imageA; rw [Array.getElem?_append_left (by simp)]; rfl
end Go.Cib
namespace Go.Proofs.YthbaipljlbddcaaGreat
open Go.RowKit Go.Cib
theorem u32sT : OneT Tryz.prog 127 28 (.int .u32 0) 4 := .of (by kernel_rfl) (by kernel_rfl) rfl
abbrev fnList (Bf Bw Bn : Nat) : Value := .func (.func 76) #[] #[.pointer (some ⟨Bf, 0, none⟩), .pointer (some ⟨Bw, 0, none⟩), .pointer (some ⟨Bn, 0, none⟩)]
abbrev fnImg (Bf : Nat) (q : Nat × Nat) : Value := .func (.func 77) #[] #[.pointer (some ⟨Bf, 0, none⟩), .pointer (some ⟨q.1, 0, none⟩), .pointer (some ⟨q.2, 0, none⟩)]
abbrev fnEnd (Bf Bw : Nat) : Value := .func (.func 78) #[] #[.pointer (some ⟨Bf, 0, none⟩), .pointer (some ⟨Bw, 0, none⟩)]
theorem tch_own7 {X Y : List Nat} {W wr w5 w7 : World} {o : Obj} (h : Tch X W wr) (t5 : Tch [] wr w5) (t7 : Tch Y (w5.alloc o) w7) (hY : ∀ k ∈ Y, W.heap.size ≤ k) : Tch X W w7 := by
  have h6 : Tch (X ++ Y) W w7 := (((h.mono (S' := X ++ Y) (by simp +contextual)).trans (t5.mono (by simp))).alloc o).trans (t7.mono (by simp +contextual))
  exact h6.drop (fun k hk => by
    rcases List.mem_append.1 hk with h1 | h1
    · exact .inl h1
    · exact .inr (hY k h1))
theorem ownVals_one (w : World) (f : Value) (e : TypeId) : OwnVals (w.alloc (.cells #[f] e)) w.heap.size e (.slice (some ⟨w.heap.size, 0, none⟩) 1 1) [f] :=
  ⟨by simp, .inr ⟨w.heap.size, 1, #[f], rfl, Nat.le_refl _, heap_alloc_new _ _, Nat.le_refl _, by unfold maxLen; omega, rfl, rfl⟩⟩
/-- The numbers of the pages, gathered in a variable. -/
structure NamR (W wr : World) (Bn : Nat) (l : List Nat) (v : Value) : Prop where
  box : wr.heap[Bn]? = some (.cells #[v] 127)
  own : OwnVals wr W.heap.size 28 v (l.map fun (n : Nat) => .int .u32 (n : Int))
  tch : Tch [Bn] W wr
/-- The functions that write the images. -/
structure ImgR (W wr : World) (Bf Bw Bn : Nat) (ws : List (Nat × Page)) (j : Nat) (bs : List (Nat × Nat)) (v : Value) : Prop where
  len : bs.length = j
  own : OwnVals wr W.heap.size 87 v (fnList Bf Bw Bn :: bs.map (fnImg Bf))
  box : ∀ (i : Nat) (b : Nat × Nat) (q : Nat × Page), bs[i]? = some b → ws[i]? = some q → wr.heap[b.1]? = some (.cells #[.int .i64 i] 3) ∧ wr.heap[b.2]? = some (.cells (imageA q.1 q.2) 68) ∧ W.heap.size ≤ b.1 ∧ W.heap.size ≤ b.2
  tch : Tch [] W wr
theorem ImgR.next {W wr w5 w6 w7 : World} {Bf Bw Bn j b1 b2 : Nat} {ws : List (Nat × Page)} {bs : List (Nat × Nat)} {v v' : Value} {q : Nat × Page} (h : ImgR W wr Bf Bw Bn ws j bs v) (hq : ws[j]? = some q) (t5 : Tch [] wr w5)
    (hb1 : w5.heap[b1]? = some (.cells #[.int .i64 j] 3)) (hb2 : w5.heap[b2]? = some (.cells (imageA q.1 q.2) 68)) (hW1 : W.heap.size ≤ b1) (hW2 : W.heap.size ≤ b2) (t6 : Tch [] w5 w6)
    (o7 : OwnVals w7 W.heap.size 87 v' ((fnList Bf Bw Bn :: bs.map (fnImg Bf)) ++ [fnImg Bf (b1, b2)])) (t7 : Tch v.ownBlock.toList w6 w7) : ImgR W w7 Bf Bw Bn ws (j + 1) (bs ++ [(b1, b2)]) v' := by
  have own6 := (h.own.kept t5 (by simp)).kept t6 (by simp)
  refine ⟨by rw [List.length_append, h.len]; rfl, by simpa using o7, ?_, tch_own (h.tch.trans (t5.trans t6)) t7 (fun k hk => (own6.lt k hk).1)⟩
  have fin : ∀ {b : Nat} {c : Array Value} {e : TypeId}, w6.heap[b]? = some (.cells c e) → e ≠ 87 → w7.heap[b]? = some (.cells c e) := fun hb he => t7.heap hb (own6.ne hb he)
  intro i c r hi hr
  rcases Nat.lt_or_ge i bs.length with hlt | hge
  · rw [List.getElem?_append_left hlt] at hi
    obtain ⟨g1, g2, g3, g4⟩ := h.box i c r hi hr
    exact ⟨fin (t6.heap (t5.heap g1 (by simp)) (by simp)) (by decide), fin (t6.heap (t5.heap g2 (by simp)) (by simp)) (by decide), g3, g4⟩
  · rw [List.getElem?_append_right hge, h.len] at hi
    have hi0 : i - j = 0 := by
      rcases Nat.eq_zero_or_pos (i - j) with h0 | h0
      · exact h0
      · rw [List.getElem?_eq_none (by simp; omega)] at hi; cases hi
    have hij : i = j := by have := h.len; omega
    subst hij
    rw [hi0] at hi
    simp at hi
    subst hi
    rw [hq] at hr
    cases hr
    exact ⟨fin (t6.heap hb1 (by simp)) (by decide), fin (t6.heap hb2 (by simp)) (by decide), hW1, hW2⟩

theorem write_lt {D : DiskS} {i : Int} {s : Sec} (h : (D.write i s).1 = 0) : 0 ≤ i ∧ i < D.lasts.length := by
  unfold DiskS.write at h
  split at h
  · rename_i hm
    unfold DiskS.may at hm
    repeat' split at hm
    all_goals first | (exfalso; omega) | omega
  · rename_i hm; exact absurd h hm
/-- What the steps of a record keep; what holds behind one that failed. -/
structure PutE (W w' : World) (g d L M V Bp : Nat) (S : LogS) (s : LogS × Nat) : Prop where
  at_ : LogAt w' g d L M V s.1
  same : ∃ D, s.1 = { S with disk := D }
  tch : Tch [Bp, d, L, M] W w'
structure PutR (W w' : World) (g d L M V Bl Bp Bf : Nat) (S : LogS) (s : LogS × Nat) : Prop where
  at_ : PutAt w' g d L M V Bl Bp Bf s.2 s.1
  same : ∃ D, s.1 = { S with disk := D }
  tch : Tch [Bp, d, L, M] W w'
theorem put_stepE {g d L M V Bl Bp Bf : Nat} {S : LogS} {W : World} {fid : FuncId} {cap : Array Value} {f : FrameV} (hcf : ∀ (args : Array Value) (w : World), (callFunc fid args).run Tryz.prog w = .ok (.enter fid args) w) (hBl : Bl ∉ [Bp, d, L, M]) (hBf : Bf ∉ [Bp, d, L, M])
    (hc : ∀ S' pl w', PutAt w' g d L M V Bl Bp Bf pl S' → Tch [Bp, d, L, M] W w' → Calls Tryz.prog fid cap w' fun e w'' => e = .returned (.int .i64 (LogS.putStep f (S', pl)).1) ∧ LogAt w'' g d L M V (LogS.putStep f (S', pl)).2.1 ∧ w''.heap[Bp]? = some (.cells #[.int .i64 (pl + 1 : Nat)] 3) ∧ Tch [Bp, d, L, M] w' w'') :
    StepE Tryz.prog (fun s w' => PutR W w' g d L M V Bl Bp Bf S s) (fun s w' => PutE W w' g d L M V Bp S s) (.func (.func fid) #[] cap) (LogS.putStep f) :=
  ⟨_, _, _, rfl, hcf, fun s w h => by
    obtain ⟨S', pl⟩ := s
    obtain ⟨D, hD⟩ := h.same
    simp only at hD
    subst hD
    rw [Array.empty_append]
    refine (hc _ pl w h.at_ h.tch).mono ?_
    rintro e w' ⟨q1, q2, q3, q4⟩
    refine ⟨q1, fun hz => ⟨⟨q2, cell_touch q4 h.at_.cl hBl, q3, cell_touch q4 h.at_.cf hBf, h.at_.hBp, ?_, h.at_.gen, h.at_.rec_⟩, ⟨_, rfl⟩, h.tch.trans q4⟩, ⟨q2, ⟨_, rfl⟩, h.tch.trans q4⟩⟩
    have h1 := (write_lt hz).2
    have h2 : D.lasts.length ≤ 16384 := h.at_.at_.hD.ok.size
    simp only [LogS.putStep] at h1 ⊢
    omega⟩
set_option maxRecDepth 20000 in
theorem flush_stepE {g d L M V Bl Bp Bf : Nat} {S : LogS} {W : World} (hBl : Bl ∉ [Bp, d, L, M]) (hBf : Bf ∉ [Bp, d, L, M]) :
    StepE Tryz.prog (fun s w' => PutR W w' g d L M V Bl Bp Bf S s) (fun s w' => PutE W w' g d L M V Bp S s) (fnFlush d) LogS.flush2 :=
  ⟨_, _, _, rfl, fun _ _ => rfl, fun s w h => by
    obtain ⟨S', pl⟩ := s
    obtain ⟨D, hD⟩ := h.same
    simp only at hD
    subst hD
    refine (flush_any h.at_.at_.hD).mono ?_
    rintro e w' ⟨q1, q2, q3⟩
    have q4 : Tch [Bp, d, L, M] w w' := q3.mono (by simp)
    have hb := h.at_.hBp
    simp only [List.mem_cons, List.not_mem_nil, or_false, not_or] at hb
    exact ⟨q1, fun _ => ⟨⟨h.at_.at_.disk q2 q3, cell_touch q4 h.at_.cl hBl, q3.heap h.at_.cp (by simp; omega), cell_touch q4 h.at_.cf hBf, h.at_.hBp, h.at_.hpl, h.at_.gen, h.at_.rec_⟩, ⟨_, rfl⟩, h.tch.trans q4⟩, ⟨h.at_.at_.disk q2 q3, ⟨_, rfl⟩, h.tch.trans q4⟩⟩⟩

set_option maxRecDepth 20000 in
set_option maxHeartbeats 2000000 in
theorem write8_any {w : World} {g d L M V : Nat} {S : LogS} (h : LogAt w g d L M V S) (ok : S.Ok) {ia : Option Addr} {icap : Nat} {ws : List (Nat × Page)} (hI : ImgsAt w ia (ws.map fun q => ((q.1 : Int), q.2))) (hws : ∀ q ∈ ws, q.1 < 16384) (hn : ws.length ≤ 120) :
    Calls Tryz.prog 50 #[.pointer (some ⟨g, 0, none⟩), .slice ia ws.length icap] w fun e w' =>
      e = .returned (.int .i64 (S.disk.acts (S.writeAs ws)).1) ∧ LogAt w' g d L M V { S with disk := (S.disk.acts (S.writeAs ws)).2 } ∧ Tch [d, L, M] w w' := by
  obtain ⟨m, hm⟩ : ∃ m, ws.length = m := ⟨_, rfl⟩
  rw [hm] at hn ⊢
  have hgw : g < w.heap.size := lt_of_heap h.hg
  obtain ⟨pl, hpl⟩ : ∃ pl, 2 + S.used = pl := ⟨_, rfl⟩
  have hu : pl ≤ 4002 := by have := ok.used; have := ok.log4; omega
  have c4 := h.cell 4 rfl
  have Wp : (2 : Int) + S.used = pl := by omega
  obtain ⟨W, hW⟩ : ∃ W, ((((w.alloc (.cells #[.pointer (some ⟨g, 0, none⟩)] 41)).alloc (.cells #[.slice ia m icap] 69)).alloc (.cells #[.int .i64 (wrap64 ((2 : Int) + S.used))] 3)).alloc (.cells #[fnPut w.heap.size (w.heap.size + 1 + 1)] 126)).alloc (.cells #[.slice none 0 0] 127) = W := ⟨_, rfl⟩
  have HW := Lib.hid hW
  have H := Lib.hid h
  have HII := Lib.hid hI
  have HWS := Lib.hid hws
  have HM := Lib.hid hm
  have OKK := Lib.hid ok
  have HPL := Lib.hid hpl
  have hmf : ∀ (fn : Fn) (first cap : Array Value) (w : World), (Instr.makeFunc fn first cap).run Tryz.prog w = .ok (.func fn first cap) w := fun _ _ _ _ => rfl
  have hsf : ∀ (p : Addr) (fn : Fn) (first cap : Array Value) (mo : Mode) (w : World), (store p (.func fn first cap) mo).run Tryz.prog w = stored Tryz.prog w p (.func fn first cap) mo := fun _ _ _ _ _ _ => run_store _ _ _ _ _ rfl
  clear h hI hws hm ok hW hpl Wp
  go_enter Tryz.func50, Tryz.ntmps50
  go_upto_region 4 with fail
  rw [HW.out]
  obtain ⟨Bl, hBl⟩ : ∃ Bl, w.heap.size = Bl := ⟨_, rfl⟩
  obtain ⟨Bw, hBw⟩ : ∃ Bw, Bl + 1 = Bw := ⟨_, rfl⟩
  obtain ⟨Bp, hBp⟩ : ∃ Bp, Bw + 1 = Bp := ⟨_, rfl⟩
  obtain ⟨Bf, hBf⟩ : ∃ Bf, Bp + 1 = Bf := ⟨_, rfl⟩
  obtain ⟨Bn, hBn⟩ : ∃ Bn, Bf + 1 = Bn := ⟨_, rfl⟩
  have tW : Tch [] w W := by rw [← HW.out]; exact (((((Tch.refl _ _).alloc _).alloc _).alloc _).alloc _).alloc _
  have el : W.heap[Bl]? = some (.cells #[.pointer (some ⟨g, 0, none⟩)] 41) := by
    rw [← HW.out, heap_alloc, if_neg (by simp; omega), heap_alloc, if_neg (by simp; omega), heap_alloc, if_neg (by simp; omega), heap_alloc, if_neg (by simp; omega), heap_alloc, if_pos hBl.symm]
  have ew : W.heap[Bw]? = some (.cells #[.slice ia m icap] 69) := by
    rw [← HW.out, heap_alloc, if_neg (by simp; omega), heap_alloc, if_neg (by simp; omega), heap_alloc, if_neg (by simp; omega), heap_alloc, if_pos (by simp; omega)]
  have ep : W.heap[Bp]? = some (.cells #[.int .i64 pl] 3) := by
    rw [← HW.out, heap_alloc, if_neg (by simp; omega), heap_alloc, if_neg (by simp; omega), heap_alloc, if_pos (by simp; omega)]
    rw [show wrap64 (2 + (S.used : Int)) = pl by unfold wrap64; have := HPL.out; omega]
  have ef : W.heap[Bf]? = some (.cells #[fnPut Bl Bp] 126) := by
    rw [← HW.out, heap_alloc, if_neg (by simp; omega), heap_alloc, if_pos (by simp; omega), hBl, hBw, hBp]
  have en : W.heap[Bn]? = some (.cells #[.slice none 0 0] 127) := by
    rw [← HW.out, heap_alloc, if_pos (by simp; omega)]
  rw [hBl, hBw, hBp, hBf, hBn]
  have ws1 : W.heap.size = Bn + 1 := by rw [← HW.out]; simp; omega
  have cw := cell_of_row W Bw 0 _ _ _ ew
  simp only [List.getElem?_toArray, List.getElem?_cons_zero] at cw
  have TW := Lib.hid tW
  have EL := Lib.hid el
  have EW := Lib.hid ew
  have EP := Lib.hid ep
  have EF := Lib.hid ef
  have EN := Lib.hid en
  have WS := Lib.hid ws1
  have HO := Lib.hid (And.intro hBl (And.intro hBw (And.intro hBp (And.intro hBf hBn))))
  clear tW el ew ep ef en ws1 hBl hBw hBp hBf hBn HW c4 hgw
  go_wp2_with fail
  go_loopg [21] m (fun q i wr => ∃ j v, OnAt m i q j ∧ NamR W wr Bn ((ws.take j).map (·.1)) v)
  case atStart => exact ⟨0, _, ⟨Nat.zero_le _, rfl, rfl⟩, ⟨EN.out, ownVals_nil _ _ _, Tch.refl _ _⟩⟩
  case round =>
    obtain ⟨j, v, ⟨hj, rfl, rfl⟩, hnr⟩ := hrel
    have NR := Lib.hid hnr
    clear hnr
    by_cases hjm : j < m
    · obtain ⟨q, hq⟩ : ∃ q, ws[j]? = some q := ⟨_, List.getElem?_eq_getElem (by rw [HM.out]; exact hjm)⟩
      have hq2 : (ws.map fun q => ((q.1 : Int), q.2))[j]? = some ((q.1 : Int), q.2) := by rw [List.getElem?_map, hq]; rfl
      obtain ⟨ib, ic, ie, ifr, rfl, _⟩ := HII.out j _ hq2
      have tr : Tch [Bn] w wr := (TW.out.mono (by simp)).trans NR.out.tch
      have hib : ib ≠ Bn := by
        obtain ⟨b', c', e', fr', h1, h2, _⟩ := HII.out j _ hq2
        cases h1
        have := lt_of_heap h2
        have := HO.out
        omega
      have IR := Lib.hid (HII.out.touch tr (by intro b hb; cases hb; simpa using hib))
      have HQ := Lib.hid hq
      have HQ2 := Lib.hid hq2
      have hqb := HWS.out q (List.mem_of_getElem? hq)
      clear hq hq2 tr
      go_upto_region 7 with (first | ((with_reducible apply wc_load_img imgT IR.out HQ2.out); exact rfl; go_frame) | ((with_reducible refine wc_alloc_img imgZero ?_); go_frame) | ((with_reducible apply wc_store_img_new imgT); exact rfl; exact rfl; go_frame))
      obtain ⟨w5, hw5⟩ : ∃ w5, wr.alloc (.cells (imageA q.1 q.2) 68) = w5 := ⟨_, rfl⟩
      rw [hw5]
      have t5 : Tch [] wr w5 := by rw [← hw5]; exact (Tch.refl _ _).alloc _
      have b5 : w5.heap[wr.heap.size]? = some (.cells (imageA q.1 q.2) 68) := by rw [← hw5]; exact heap_alloc_new _ _
      have c5 := cell_img0 b5
      have bn5 := t5.heap NR.out.box (by simp)
      have cn5 : w5.cell? ⟨Bn, 0, none⟩ = some v := by rw [cell_of_row w5 Bn 0 _ _ _ bn5]; rfl
      have fn5 := frozen_of_row w5 Bn 0 _ _ bn5
      have own5 := NR.out.own.kept t5 (by simp)
      have hWr := NR.out.tch.size
      have hw6 := t5.size
      have W3 := convU32 q.1 (by omega)
      have O5 : Hid (OwnVals (w5.alloc (.cells #[.int .u32 q.1] 28)) W.heap.size 28 v (((ws.take j).map (·.1)).map fun (n : Nat) => .int .u32 (n : Int))) := own5.kept ((Tch.refl [] _).alloc _) (by simp)
      have V5 : Hid (ValsAt (w5.alloc (.cells #[.int .u32 q.1] 28)) (some ⟨w5.heap.size, 0, none⟩) [.int .u32 q.1]) := valsAt_row (heap_alloc_new _ _)
      have hlen : (((ws.take j).map (·.1)).map fun (n : Nat) => Value.int .u32 (n : Int)).length ≤ 200 := by simp; omega
      have T5 := Lib.hid t5
      have B5 := Lib.hid b5
      have BN5 := Lib.hid bn5
      have HLEN := Lib.hid hlen
      have hvne : Bn ∉ v.ownBlock.toList := own5.ne bn5 (by decide)
      have BN6 : Hid (∀ w7, Tch v.ownBlock.toList (w5.alloc (.cells #[.int .u32 q.1] 28)) w7 → w7.heap[Bn]? = some (.cells #[v] 127)) := fun w7 h => h.heap (((Tch.refl [] w5).alloc _).heap bn5 (by simp)) hvne
      have hbn : Bn < w5.heap.size := lt_of_heap bn5
      clear hw5 t5 b5 own5 bn5 hlen hvne
      go_wp2_with ((with_reducible apply wc_append_vals u32sT (by decide) (m := [.int .u32 q.1]) O5.out (by simp; omega) (by have := HLEN.out; simp at this ⊢; omega)); exact rfl; exact rfl; exact rfl; exact rfl; exact V5.out; (intro u hu; simp at hu; subst hu; rfl); intro v7 w7 ho7 ht7; obtain ⟨vn, va, vc, hv7⟩ : ∃ vn va vc, v7 = .slice va vn vc := (by obtain ⟨a, c, e, _⟩ := ho7.vals; exact ⟨_, _, _, e⟩); subst hv7; go_frame; have HO7 := Lib.hid ho7; have HT7 := Lib.hid ht7; have bn7 := BN6.out _ ht7; have cn7 : w7.cell? ⟨Bn, 0, none⟩ = some v := (by rw [cell_of_row w7 Bn 0 _ _ _ bn7]; rfl); have fn7 := frozen_of_row w7 Bn 0 _ _ bn7; have BN7 := Lib.hid bn7; clear ho7 ht7 bn7)
      go_roundg (m - (j + 1))
      case measure => omega
      case rel =>
        refine ⟨j + 1, .slice va vn vc, ⟨by omega, by go_num, rfl⟩, ?_, ?_, ?_⟩
        · rw [heap_setCell_cells BN7.out]; rfl
        · have e : (ws.take (j + 1)).map (·.1) = (ws.take j).map (·.1) ++ [q.1] := by
            rw [List.take_add_one, HQ.out, List.map_append]; rfl
          rw [e, List.map_append]
          exact HO7.out.kept ((Tch.refl [Bn] _).setCell (by simp) _) (fun k hk hkb => by
            have hne := HO7.out.ne BN7.out (by decide)
            simp at hkb
            subst hkb
            exact hne (by rw [hk]; simp))
        · have t6 : Tch [Bn] W w7 := tch_own7 NR.out.tch T5.out HT7.out (fun k hk => (O5.out.lt k hk).1)
          exact t6.trans ((Tch.refl [Bn] _).setCell (by simp) _)
    · have hjm' : j = m := by omega
      subst hjm'
      obtain ⟨w2, hw2⟩ : ∃ w2, w2 = wr := ⟨_, rfl⟩
      subst hw2
      have hfull : ws.take j = ws := List.take_of_length_le (by rw [HM.out]; exact Nat.le_refl _)
      rw [hfull] at NR
      obtain ⟨na, ncap, hv, hvals, hblk⟩ := NR.out.own.vals
      have hnl : (List.map (fun (n : Nat) => Value.int IntKind.u32 (n : Int)) (ws.map (·.1))).length = j := by simp [HM.out]
      rw [hnl] at hv
      subst hv
      have HVALS := Lib.hid hvals
      have HBLK := Lib.hid hblk
      have TNW := NR.out.tch
      have hBO := HO.out
      have ewr := TNW.heap EW.out (by simp; omega)
      have cwr := cell_of_row w2 Bw 0 _ _ _ ewr
      simp only [List.getElem?_toArray, List.getElem?_cons_zero] at cwr
      have TN := Lib.hid TNW
      have hWr := TNW.size
      clear hfull hvals hblk hnl TNW ewr
      go_upto_region 10 with fail
      obtain ⟨w3, hw3⟩ : ∃ w3, w2.alloc (.cells #[fnList Bf Bw Bn] 87) = w3 := ⟨_, rfl⟩
      have t3 : Tch [] w2 w3 := by rw [← hw3]; exact (Tch.refl _ _).alloc _
      have o3 : OwnVals w3 w2.heap.size 87 (.slice (some ⟨w2.heap.size, 0, none⟩) 1 1) [fnList Bf Bw Bn] := by
        rw [← hw3]; exact ownVals_one _ _ _
      have cw3 := cell_old t3 cwr
      have T3 := Lib.hid t3
      have O3 := Lib.hid o3
      rw [hw3]
      clear hw3 t3 o3 cwr
      go_wp2_with fail
      go_loopg [10, 36] j (fun q v i w' => ∃ k bs, OnAt j i q k ∧ ImgR w2 w' Bf Bw Bn ws k bs v)
      case atStart => exact ⟨0, [], ⟨Nat.zero_le _, rfl, rfl⟩, ⟨rfl, O3.out, by simp, T3.out⟩⟩
      case round =>
        obtain ⟨k, bs, ⟨hk, rfl, rfl⟩, hir⟩ := hrel
        have IR := Lib.hid hir
        clear hir
        by_cases hkm : k < j
        · obtain ⟨q, hq⟩ : ∃ q, ws[k]? = some q := ⟨_, List.getElem?_eq_getElem (by rw [HM.out]; exact hkm)⟩
          have hq2 : (ws.map fun q => ((q.1 : Int), q.2))[k]? = some ((q.1 : Int), q.2) := by rw [List.getElem?_map, hq]; rfl
          obtain ⟨ib, ic, ie, ifr, rfl, hib, _⟩ := HII.out k _ hq2
          have hibw := lt_of_heap hib
          have t0 : Tch [Bn] w wr := ((TW.out.mono (by simp)).trans TN.out).trans (IR.out.tch.mono (by simp))
          have IM := Lib.hid (HII.out.touch t0 (by intro b hb; cases hb; simp; omega))
          have HQ := Lib.hid hq
          have HQ2 := Lib.hid hq2
          clear hq hq2 t0 hib
          go_upto_region 13 with (first | ((with_reducible apply wc_load_img imgT IM.out HQ2.out); exact rfl; go_frame) | ((with_reducible refine wc_alloc_img imgZero ?_); go_frame) | ((with_reducible apply wc_store_img_new imgT); (simp only [World.size_alloc]; exact rfl); exact rfl; go_frame))
          obtain ⟨w5, hw5⟩ : ∃ w5, (wr.alloc (.cells #[.int .i64 k] 3)).alloc (.cells (imageA q.1 q.2) 68) = w5 := ⟨_, rfl⟩
          rw [hw5]
          have t5 : Tch [] wr w5 := by rw [← hw5]; exact ((Tch.refl _ _).alloc _).alloc _
          have b51 : w5.heap[wr.heap.size]? = some (.cells #[.int .i64 k] 3) := by rw [← hw5, heap_alloc, if_neg (by simp), heap_alloc, if_pos rfl]
          have b52 : w5.heap[wr.heap.size + 1]? = some (.cells (imageA q.1 q.2) 68) := by rw [← hw5, heap_alloc, if_pos (by simp)]
          have hWrr := IR.out.tch.size
          have T5 := Lib.hid t5
          have B51 := Lib.hid b51
          have B52 := Lib.hid b52
          have O5 : Hid (OwnVals (w5.alloc (.cells #[fnImg Bf (wr.heap.size, wr.heap.size + 1)] 87)) w2.heap.size 87 u10 (fnList Bf Bw Bn :: bs.map (fnImg Bf))) := (IR.out.own.kept t5 (by simp)).kept ((Tch.refl [] _).alloc _) (by simp)
          have V5 : Hid (ValsAt (w5.alloc (.cells #[fnImg Bf (wr.heap.size, wr.heap.size + 1)] 87)) (some ⟨w5.heap.size, 0, none⟩) [fnImg Bf (wr.heap.size, wr.heap.size + 1)]) := valsAt_row (heap_alloc_new _ _)
          have hbl : bs.length = k := IR.out.len
          have hw6 := t5.size
          clear hw5 t5 b51 b52
          go_wp2_with ((with_reducible apply wc_append_vals fnsT (by decide) (m := [fnImg Bf (wr.heap.size, wr.heap.size + 1)]) O5.out (by simp; omega) (by simp; omega)); exact rfl; exact rfl; exact rfl; exact rfl; exact V5.out; (intro u hu; simp at hu; subst hu; rfl); intro v7 w7 ho7 ht7; go_frame; have HO7 := Lib.hid ho7; have HT7 := Lib.hid ht7; clear ho7 ht7)
          go_roundg (j - (k + 1))
          case measure => omega
          case rel => exact ⟨k + 1, _, ⟨by omega, by go_num, rfl⟩, IR.out.next HQ.out T5.out B51.out B52.out hWrr (by omega) ((Tch.refl [] _).alloc _) HO7.out HT7.out⟩
        · have hkm' : k = j := by omega
          subst hkm'
          have hbl : bs.length = k := IR.out.len
          have hibf : ∀ b, ia = some ⟨b, 0, none⟩ → True := fun _ _ => trivial
          have tr0 : Tch [Bn] w wr := ((TW.out.mono (by simp)).trans TN.out).trans (IR.out.tch.mono (by simp))
          have hBO2 := HO.out
          have hgl : g < w.heap.size := lt_of_heap H.out.hg
          have hdl : d < w.heap.size := lt_of_heap H.out.hD.hd
          have hLl : L < w.heap.size := lt_of_heap H.out.hD.hL
          have hMl : M < w.heap.size := H.out.hD.hM.lt
          have hVl : V < w.heap.size := H.out.hV.lt
          have hr := H.out.touch tr0 (by simp; omega) (by simp; omega) (by simp; omega) (by simp; omega) (by simp; omega)
          have c0 := hr.cell 0 rfl
          have t2r : Tch [Bn] W wr := TN.out.trans (IR.out.tch.mono (by simp))
          have elr := t2r.heap EL.out (by simp; omega)
          have clr : wr.cell? ⟨Bl, 0, none⟩ = some (.pointer (some ⟨g, 0, none⟩)) := by rw [cell_of_row wr Bl 0 _ _ _ elr]; rfl
          have HR := Lib.hid hr
          obtain ⟨row, hrow⟩ : ∃ row, wr.alloc (.cells #[fnFlush d, fnEnd Bf Bw, fnFlush d] 87) = row := ⟨_, rfl⟩
          have tA : Tch [] wr row := by rw [← hrow]; exact (Tch.refl _ _).alloc _
          have clA := cell_old tA clr
          have c0A := cell_old tA c0
          have hmf2 := hmf
          have O5 : Hid (∀ n, OwnVals (row.drewN n) w2.heap.size 87 u10 (fnList Bf Bw Bn :: bs.map (fnImg Bf))) := fun n => (IR.out.own.kept tA (by simp)).kept (tch_drewN row n) (by simp)
          have V5 : Hid (∀ n, ValsAt (row.drewN n) (some ⟨wr.heap.size, 0, none⟩) [fnFlush d, fnEnd Bf Bw, fnFlush d]) := fun n => (valsAt_row (by rw [← hrow]; exact heap_alloc_new _ _)).later (tch_drewN row n)
          have hw2r := IR.out.tch.size
          have hrs := tA.size
          have HROW := Lib.hid hrow
          have TA := Lib.hid tA
          clear hrow hr tA tr0 t2r elr
          go_upto_region 15 with fail
          refine wp_region_one 13 12 [u10, .pointer (some ⟨g, 0, none⟩), .pointer (some ⟨g, 0, none⟩), .pointer (some ⟨g, 0, none⟩), .pointer (some ⟨d, 0, none⟩), fnFlush d, fnEnd Bf Bw, .pointer (some ⟨g, 0, none⟩), .pointer (some ⟨g, 0, none⟩), .pointer (some ⟨g, 0, none⟩), .pointer (some ⟨d, 0, none⟩), fnFlush d, .slice (some ⟨wr.heap.size, 0, none⟩) 3 3] _ (fun b w' => ∃ n, w' = World.drewN (cond b row wr) n) (by kernel_rfl) (by kernel_rfl) rfl
            (by simp only [putAll, List.take_succ_cons, List.take_zero]; go_frame; exact rfl) (by decide) ⟨1, rfl⟩ ?_ ?_ ?_
          · intro b
            have clb : (cond b row wr).cell? ⟨Bl, 0, none⟩ = some (.pointer (some ⟨g, 0, none⟩)) := by cases b; exact clr; exact clA
            have c0b : (cond b row wr).cell? ⟨g, 0, none⟩ = some (.pointer (some ⟨d, 0, none⟩)) := by cases b; exact c0; exact c0A
            simp only [List.take_succ_cons, List.take_zero]
            refine stepsBut_cons (stepOk_value rfl fun W hW => ?_) (stepsBut_cons (stepOk_value rfl fun W hW => ?_) (stepsBut_cons (stepOk_value rfl fun W hW => ?_) (stepsBut_cons (stepOk_value rfl fun W hW => ?_) (stepsBut_cons (stepOk_value rfl fun W hW => ?_) (stepsBut_cons (stepOk_value rfl fun W hW => ?_) (stepsBut_cons (stepOk_value rfl fun W hW => ?_) (stepsBut_cons (stepOk_value rfl fun W hW => ?_) (stepsBut_cons (stepOk_value rfl fun W hW => ?_) (stepsBut_cons (stepOk_value rfl fun W hW => ?_) (stepsBut_cons (stepOk_value rfl fun W hW => ?_) (stepsBut_cons (stepOk_value rfl fun W hW => ?_) (stepsBut_here stepsOk_nil))))))))))))
            all_goals (obtain ⟨n, rfl⟩ := hW; go_simp)
          · intro o W ho hW
            simp only [List.getElem?_cons_zero, List.getElem?_cons_succ, Option.some.injEq] at ho
            subst ho
            obtain ⟨n, rfl⟩ := hW
            refine ⟨rfl, ?_⟩
            simp only [cond_false]
            go_simp
            exact ⟨n, by rw [← HROW.out]; rfl⟩
          intro wZ hZ
          obtain ⟨n, rfl⟩ := hZ
          simp only [cond_true, List.drop_succ_cons, List.drop_zero]
          have hBlX : Bl ∉ [Bp, d, L, M] := by simp; omega
          have hBfX : Bf ∉ [Bp, d, L, M] := by simp; omega
          have CALL : Hid (∀ v7 w7, OwnVals w7 w2.heap.size 87 v7 ((fnList Bf Bw Bn :: bs.map (fnImg Bf)) ++ [fnFlush d, fnEnd Bf Bw, fnFlush d]) → Tch u10.ownBlock.toList (row.drewN n) w7 →
              Calls Tryz.prog 39 #[v7] w7 fun e w' => e = .returned (.int .i64 (S.disk.acts (S.writeAs ws)).1) ∧ LogAt w' g d L M V { S with disk := (S.disk.acts (S.writeAs ws)).2 } ∧ Tch [d, L, M] w w') := by
            intro v7 w7 ho7 ht7
            obtain ⟨av, vcap, hv7, hvals, hblk⟩ := ho7.vals
            subst hv7
            have own5 := O5.out n
            have T27 : Tch [] w2 w7 := tch_own (IR.out.tch.trans (TA.out.trans (tch_drewN row n))) ht7 (fun k hk => (own5.lt k hk).1)
            have T07 : Tch [Bn] w w7 := ((TW.out.mono (by simp)).trans TN.out).trans (T27.mono (by simp))
            have TW7 : Tch [Bn] W w7 := TN.out.trans (T27.mono (by simp))
            have h7 := H.out.touch T07 (by simp; omega) (by simp; omega) (by simp; omega) (by simp; omega) (by simp; omega)
            have el7 := TW7.heap EL.out (by simp; omega)
            have ew7 := TW7.heap EW.out (by simp; omega)
            have ep7 := TW7.heap EP.out (by simp; omega)
            have ef7 := TW7.heap EF.out (by simp; omega)
            have en7 := T27.heap NR.out.box (by simp)
            have cl7 : w7.cell? ⟨Bl, 0, none⟩ = some (.pointer (some ⟨g, 0, none⟩)) := by rw [cell_of_row w7 Bl 0 _ _ _ el7]; rfl
            have cw7 : w7.cell? ⟨Bw, 0, none⟩ = some (.slice ia k icap) := by rw [cell_of_row w7 Bw 0 _ _ _ ew7]; rfl
            have cf7 : w7.cell? ⟨Bf, 0, none⟩ = some (fnPut Bl Bp) := by rw [cell_of_row w7 Bf 0 _ _ _ ef7]; rfl
            have cn7 : w7.cell? ⟨Bn, 0, none⟩ = some (.slice na k ncap) := by rw [cell_of_row w7 Bn 0 _ _ _ en7]; rfl
            have P7 : PutAt w7 g d L M V Bl Bp Bf pl S := ⟨h7, cl7, ep7, cf7, by simp; omega, by omega, OKK.out.gen, by have := OKK.out.records; have := OKK.out.used; have := OKK.out.log4; omega⟩
            have hk : ws.length = k := HM.out
            have N7 : NumsAt w7 na (ws.map (·.1)) := by
              intro i x hi
              obtain ⟨b, o, hb, hc⟩ := HVALS.out i (.int .u32 x) (by rw [List.getElem?_map, hi]; rfl)
              exact ⟨b, o, hb, cell_old T27 hc⟩
            have hold : ∀ b, W.heap.size ≤ b → b ∉ [Bp, d, L, M] := by intro b hb; have := WS.out; simp; omega
            have hNX : ∀ {w' : World}, Tch [Bp, d, L, M] w7 w' → NumsAt w' na (ws.map (·.1)) := fun ht i x hi => by
              obtain ⟨b, o, hb, hc⟩ := N7 i x hi
              exact ⟨b, o, hb, cell_touch ht hc (hold b (HBLK.out b o hb))⟩
            have hnm : (ws.map (·.1)).length = k := by rw [List.length_map, hk]
            have hfst : (((fnList Bf Bw Bn, LogS.putStep (LogS.frame2 (ws.map (·.1)))) :: (bs.zip ws.zipIdx).map (fun q => (fnImg Bf q.1, LogS.putStep (LogS.frame3 q.2.2 q.2.1.2)))) ++ [(fnFlush d, LogS.flush2), (fnEnd Bf Bw, LogS.putStep (LogS.frame4 ws.length)), (fnFlush d, LogS.flush2)]).map (·.1) = (fnList Bf Bw Bn :: bs.map (fnImg Bf)) ++ [fnFlush d, fnEnd Bf Bw, fnFlush d] := by
              rw [List.map_append, List.map_cons, List.map_map]
              congr 2
              have : (bs.zip ws.zipIdx).map Prod.fst = bs := List.map_fst_zip (by rw [hbl, List.length_zipIdx, hk]; exact Nat.le_refl _)
              conv => rhs; rw [← this]
              rw [List.map_map]
              rfl
            have hsnd : (((fnList Bf Bw Bn, LogS.putStep (LogS.frame2 (ws.map (·.1)))) :: (bs.zip ws.zipIdx).map (fun q => (fnImg Bf q.1, LogS.putStep (LogS.frame3 q.2.2 q.2.1.2)))) ++ [(fnFlush d, LogS.flush2), (fnEnd Bf Bw, LogS.putStep (LogS.frame4 ws.length)), (fnFlush d, LogS.flush2)]).map (·.2) = (LogS.recFrames ws).map LogS.putStep ++ [LogS.flush2, LogS.putStep (LogS.frame4 ws.length), LogS.flush2] := by
              have e1 : (LogS.imgFrames ws).map LogS.putStep = (bs.zip ws.zipIdx).map (fun q => LogS.putStep (LogS.frame3 q.2.2 q.2.1.2)) := by
                unfold LogS.imgFrames
                have : (bs.zip ws.zipIdx).map Prod.snd = ws.zipIdx := List.map_snd_zip (by rw [hbl, List.length_zipIdx, hk]; exact Nat.le_refl _)
                conv => lhs; rw [← this]
                rw [List.map_map, List.map_map]
                rfl
              unfold LogS.recFrames
              rw [List.map_append, List.map_cons, List.map_map]
              show _ = (LogS.putStep _ :: (LogS.imgFrames ws).map LogS.putStep) ++ _
              rw [e1]
              rfl
            have hlen : (((fnList Bf Bw Bn, LogS.putStep (LogS.frame2 (ws.map (·.1)))) :: (bs.zip ws.zipIdx).map (fun q => (fnImg Bf q.1, LogS.putStep (LogS.frame3 q.2.2 q.2.1.2)))) ++ [(fnFlush d, LogS.flush2), (fnEnd Bf Bw, LogS.putStep (LogS.frame4 ws.length)), (fnFlush d, LogS.flush2)]).length = ((fnList Bf Bw Bn :: bs.map (fnImg Bf)) ++ [fnFlush d, fnEnd Bf Bw, fnFlush d]).length := by
              rw [← hfst, List.length_map]
            rw [← hlen]
            rw [← hfst] at hvals
            refine (steps_end (R := fun s w' => PutR w7 w' g d L M V Bl Bp Bf S s) (R' := fun s w' => PutE w7 w' g d L M V Bp S s) ?_ (fun s w' h => ⟨h.at_.at_, h.same, h.tch⟩) (a := av) (cap := vcap) ?_ (s := (S, pl)) ⟨P7, ⟨S.disk, rfl⟩, Tch.refl _ _⟩ ?_).mono ?_
            · intro q hq
              rcases List.mem_append.1 hq with hq | hq
              · rcases List.mem_cons.1 hq with rfl | hq
                · refine put_stepE (fun _ _ => rfl) hBlX hBfX (fun S' pl' w' hp ht => ?_)
                  exact wr2_any hp (by rw [hnm]; exact cell_touch ht cw7 (by simp; omega)) (by rw [hnm]; exact cell_touch ht cn7 (by simp; omega)) (hNX ht) (by omega) (by
                    intro x hx
                    obtain ⟨y, hy, rfl⟩ := List.mem_map.1 hx
                    have := HWS.out y hy
                    omega)
                · obtain ⟨⟨b, x, i⟩, hq1, rfl⟩ := List.mem_map.1 hq
                  obtain ⟨i2, hi2⟩ := List.getElem?_of_mem hq1
                  obtain ⟨hi3, hi4⟩ := List.getElem?_zip_eq_some.1 hi2
                  simp only [List.getElem?_zipIdx, Option.map_eq_some_iff, Prod.mk.injEq] at hi4
                  obtain ⟨x', hx', rfl, rfl⟩ := hi4
                  obtain ⟨g1, g2, g3, g4⟩ := IR.out.box i2 b x' hi3 hx'
                  have f1 := ht7.heap ((tch_drewN row n).heap (TA.out.heap g1 (by simp)) (by simp)) (own5.ne ((tch_drewN row n).heap (TA.out.heap g1 (by simp)) (by simp)) (by decide))
                  have f2 := ht7.heap ((tch_drewN row n).heap (TA.out.heap g2 (by simp)) (by simp)) (own5.ne ((tch_drewN row n).heap (TA.out.heap g2 (by simp)) (by simp)) (by decide))
                  have hW2 : W.heap.size ≤ w2.heap.size := TN.out.size
                  have hi5 : i2 < k := by have := (List.getElem?_eq_some_iff.1 hi3).1; omega
                  refine put_stepE (fun _ _ => rfl) hBlX hBfX (fun S' pl' w' hp ht => ?_)
                  simp only [Nat.zero_add]
                  exact wr3_any hp (cell_touch ht (by rw [cell_of_row w7 b.1 0 _ _ _ f1]; rfl) (hold b.1 (by omega))) (ht.heap f2 (hold b.2 (by omega))) (by omega)
              · simp only [List.mem_cons, List.not_mem_nil, or_false] at hq
                rcases hq with rfl | rfl | rfl
                · exact flush_stepE hBlX hBfX
                · refine put_stepE (fun _ _ => rfl) hBlX hBfX (fun S' pl' w' hp ht => ?_)
                  exact wr4_any hp (by rw [hk]; exact cell_touch ht cw7 (by simp; omega)) (by omega)
                · exact flush_stepE hBlX hBfX
            · intro s w' hR i v hv
              obtain ⟨b, o, hb, hc⟩ := hvals i v hv
              exact ⟨b, o, hb, cell_touch hR.tch hc (hold b (by have := hblk b o hb; have := TN.out.size; omega))⟩
            · rw [hlen]; simp; omega
            · rintro e w' ⟨q1, q2⟩
              rw [hsnd] at q1 q2
              have hpl2 : (S, pl) = (S, 2 + S.used) := by rw [HPL.out]
              obtain ⟨r1, r2⟩ := LogS.runS_write S ws (LogS.recFrames ws) rfl
              rw [hpl2] at q1 q2
              rw [r1] at q1
              refine ⟨q1, by rw [← r2]; exact q2.at_, ?_⟩
              exact ((T07.mono (S' := [Bn, Bp, d, L, M]) (by simp)).trans (q2.tch.mono (by simp))).drop (by intro x hx; simp at hx ⊢; omega)
          apply wc_append_vals fnsT (by decide) (m := [fnFlush d, fnEnd Bf Bw, fnFlush d]) (O5.out n) (Nat.le_trans hw2r hrs) (by simp; omega)
          · exact rfl
          · exact rfl
          · exact rfl
          · exact rfl
          · exact V5.out n
          · (intro u hu; simp only [List.mem_cons, List.not_mem_nil, or_false] at hu; rcases hu with rfl | rfl | rfl <;> rfl)
          intro v7 w7 ho7 ht7; go_frame; have HO7 := Lib.hid ho7; have HT7 := Lib.hid ht7; clear ho7 ht7
          go_wp2_with (go_at_call 39; refine (CALL.out _ _ HO7.out HT7.out).mono ?_; rintro e w8 ⟨rfl, q1, q2⟩; have Q1 := Lib.hid q1; have Q2 := Lib.hid q2; clear q1 q2)
          go_ret
          exact ⟨rfl, Q1.out, Q2.out⟩
end Go.Proofs.YthbaipljlbddcaaGreat
