/-
  The document's log: a record is in the log: ciboriumref08's took.
-/
import Derived.Test.YthbaipljlbddcaaGreatRfA
import Derived.Test.YthbaipljlbddcaaGreatLogL
import Derived.Test.YthbaipljlbddcaaGreatLawA
import Derived.Test.YthbaipljlbddcaaGreatRefAll
import Derived.Test.YthbaipljlbddcaaGreatLogH
import Derived.Test.YthbaipljlbddcaaGreatDiskAll
import Derived.Test.YthbaipljlbddcaaGreatRegAll
namespace Go.Cib
open Go Go.RowKit
section
variable {P : Program} {T : TypeId} {ops : Array Oper} {rest : List Oper} {a : Act} {w : World} {Q : Exit → Act → World → Prop} {C : World → Prop} {Qs : Act → Prop} {dst : Option Tmp} {ty : TypeId} {pos : String} {af : Array Edge} {x y : Operand} {gd : Option (Nat × Bool)}
/-- The number of an image of a list. -/
theorem imgsAt_num {b : Nat} {l : List (Int × Page)} (h : ImgsAt w (some ⟨b, 0, none⟩) l) {i : Nat} {q : Int × Page} (hi : l[i]? = some q) : w.cell? ⟨b, i * 481, none⟩ = some (.int .i64 q.1) := by
  obtain ⟨b', c, e, fr, h1, h2, h3, h4⟩ := h i q hi
  cases h1
  rw [cell_of_row w b (i * 481) _ _ _ h2]
  have h5 : (c.extract (i * 481) (i * 481 + 481))[0]? = (imageA q.1 q.2)[0]? := by rw [h4]
  rw [Array.getElem?_extract] at h5
  rw [if_pos (by omega), Nat.add_zero] at h5
  rw [h5]
  simp [imageA]
set_option maxRecDepth 20000 in
/-- The page of an image of a list. -/
theorem exec_load_imgat (hT : AggT P T 480) {b : Nat} {l : List (Int × Page)} (h : ImgsAt w (some ⟨b, 0, none⟩) l) {i : Nat} {q : Int × Page} (hi : l[i]? = some q) {o : Oper} (ho : o.op = .load T x) (hx : a.eval x = .pointer (some ⟨b, i * 481 + 1, none⟩)) :
    (execOp a.eval o).run P w = .ok (.value (.agg (secA q.2))) w := by
  obtain ⟨b', c, e, fr, h1, h2, h3, h4⟩ := h i q hi
  cases h1
  rw [exec_load_agg hT ho hx h2 (by omega)]
  congr 3
  have h5 : (imageA q.1 q.2).extract 1 481 = secA q.2 := by
    apply Array.toList_inj.1
    rw [Array.toList_extract, List.extract_eq_take_drop]
    have h1 : (imageA q.1 q.2).toList = .int .i64 q.1 :: (secA q.2).toList := by simp [imageA]
    rw [h1, List.drop_succ_cons, List.drop_zero, List.take_of_length_le (by rw [Array.length_toList, size_secA]; omega)]
  rw [← h4, Array.extract_extract] at h5
  rw [← h5]
  congr 1
  omega
theorem wq_load_imgat (hT : AggT P T 480) {b : Nat} {l : List (Int × Page)} (h : ∀ w, C w → ImgsAt w (some ⟨b, 0, none⟩) l) {i : Nat} {q : Int × Page} (hi : l[i]? = some q) (hw : Region.wanted ⟨dst, .load T x, ty, pos, af, gd⟩ (yielded ops a.tmps) = true) (hx : a.eval x = .pointer (some ⟨b, i * 481 + 1, none⟩))
    (hk : wpQuiet P ops C Qs rest (a.put dst (.agg (secA q.2)))) : wpQuiet P ops C Qs (⟨dst, .load T x, ty, pos, af, gd⟩ :: rest) a :=
  wq_value hw (fun w hc => exec_load_imgat hT (h w hc) hi rfl hx) hk
end
end Go.Cib
namespace Go.Proofs.YthbaipljlbddcaaGreat
open Go.RowKit Go.Cib
theorem hasP_set (S : LogS) (n : Nat) (x : Page) (_h : n < S.pages) (ov : Int → Option Page) (hov : ov = fun p => if p = (n : Int) then some x else S.over p) : (hasP S).setIfInBounds n (.bool true) = hasP { S with over := ov } := by
  apply Array.ext_getElem?
  intro i
  rw [Array.getElem?_setIfInBounds]
  by_cases hi : i < S.pages
  · rw [hasP_get { S with over := ov } i hi, hov]
    by_cases e : n = i
    · subst e
      rw [if_pos rfl, if_pos (by rw [size_hasP]; exact hi)]
      show some (Value.bool true) = some (Value.bool (if (n : Int) = (n : Int) then some x else S.over (n : Int)).isSome)
      rw [if_pos rfl]
      rfl
    · rw [if_neg e, hasP_get S i hi]
      show _ = some (Value.bool (if (i : Int) = (n : Int) then some x else S.over (i : Int)).isSome)
      rw [if_neg (by omega)]
  · have e1 : (hasP S)[i]? = none := Array.getElem?_eq_none (by rw [size_hasP]; omega)
    have e2 : (hasP { S with over := ov })[i]? = none := Array.getElem?_eq_none (by rw [size_hasP]; show S.pages ≤ i; omega)
    rw [e1, e2]
    split
    · rename_i he
      subst he
      rw [if_neg (by rw [size_hasP]; omega)]
    · rfl
set_option maxRecDepth 20000 in
set_option maxHeartbeats 1000000 in
theorem rtook_any {w : World} {g r a b c O B : Nat} {S : LogS} (h : RLogAt w g r a b c O B S) {ia : Option Addr} {icap : Nat} {ws : List (Nat × Page)} (hI : ImgsAt w ia (ws.map fun q => ((q.1 : Int), q.2))) (hib : ∀ k, ia = some ⟨k, 0, none⟩ → k ≠ O ∧ k ≠ B)
    (hn : ws.length ≤ 120) (hu : S.used ≤ 4000) (hr : S.records ≤ 4000) (hw : ∀ q ∈ ws, q.1 < S.pages) :
    Calls Tryz.prog 64 #[.pointer (some ⟨g, 0, none⟩), .slice ia ws.length icap] w fun e w' =>
      e = .returned (.tuple #[]) ∧ RLogAt w' g r a b c O B (S.took ws) ∧ Tch [g, O, B] w w' := by
  obtain ⟨m, hm⟩ : ∃ m, ws.length = m := ⟨_, rfl⟩
  rw [hm] at hn ⊢
  have H := Lib.hid h
  have HII := Lib.hid hI
  have HIB := Lib.hid hib
  have HM := Lib.hid hm
  have HWS := Lib.hid hw
  have hu0 : (0 : Int) ≤ S.used := by omega
  clear h hI hm hib hw
  go_enter Tryz.func64, Tryz.ntmps64
  go_wp2_with fail
  go_loopg [4] m (fun q i wr => ∃ j, OnAt m i q j ∧ RLogAt wr g r a b c O B { S with over := overs S.over (ws.take j) } ∧ Tch [O, B] w wr)
  case atStart => exact ⟨0, ⟨Nat.zero_le _, rfl, rfl⟩, H.out, Tch.refl _ _⟩
  case round =>
    obtain ⟨j, ⟨hj, rfl, rfl⟩, hl, ht⟩ := hrel
    have LR := Lib.hid hl
    have TR := Lib.hid ht
    clear hl ht
    by_cases hjm : j < m
    · obtain ⟨q, hq⟩ : ∃ q, ws[j]? = some q := ⟨_, List.getElem?_eq_getElem (by rw [HM.out]; exact hjm)⟩
      have hqp : q.1 < S.pages := HWS.out q (List.mem_of_getElem? hq)
      have hq2 : (ws.map fun q => ((q.1 : Int), q.2))[j]? = some ((q.1 : Int), q.2) := by rw [List.getElem?_map, hq]; rfl
      obtain ⟨ib, ic, ie, ifr, rfl, hib, _⟩ := HII.out j _ hq2
      obtain ⟨no, nb⟩ := HIB.out ib rfl
      have IR := Lib.hid (HII.out.touch TR.out (by intro b hb; cases hb; simp; exact ⟨no, nb⟩))
      have k0 := imgsAt_num IR.out hq2
      obtain ⟨qn, qx⟩ := q
      have HQ := Lib.hid hq
      have HQ2 := Lib.hid hq2
      have CI : Hid (∀ w', (∃ n, w' = World.drewN wr n) → ImgsAt w' (some ⟨ib, 0, none⟩) (ws.map fun q => ((q.1 : Int), q.2))) := fun w' ⟨n, hn⟩ => by subst hn; exact IR.out.touch (tch_drewN wr n) (by simp)
      simp only at hqp k0
      have c6 := LR.out.cell 6 rfl
      have c7 := LR.out.cell 7 rfl
      simp only at c6 c7
      clear hq hq2 hib
      go_upto_region 3 with fail
      (refine wp_region_walk (C := fun w' => ∃ n, w' = World.drewN wr n) 15 (by kernel_rfl) (by kernel_rfl) ⟨1, rfl⟩ ?_; simp only [List.take_succ_cons, List.take_zero, List.drop_succ_cons, List.drop_zero]; (repeat (first | ((with_reducible refine wq_load_imgat pageT.agg CI.out HQ2.out ?_ ?_ ?_); exact rfl; exact rfl; go_frame) | go_big_quiet_step (fail))); refine wpQuiet_nil ?_; intro _ hw'; obtain ⟨nq, hw''⟩ := hw'; subst hw'')
      obtain ⟨ls, hls, hll, hlx⟩ := LR.out.hO
      simp only at hll hlx
      refine wc_store_row pageT (i := qn) (s := qx) ((tch_drewN wr nq).heap hls (by simp)) (by omega) rfl rfl ?_
      go_frame
      obtain ⟨w2, hw2⟩ : ∃ w2, (wr.drewN nq).setRow O (secsA (ls.set qn qx)) = w2 := ⟨_, rfl⟩
      have t2 : Tch [O] wr w2 := by rw [← hw2]; exact ((tch_drewN wr nq).mono (by simp)).trans ((Tch.refl _ _).setRow (.inl (by simp)) _)
      have hO2 : w2.heap[O]? = some (.cells (secsA (ls.set qn qx)) 64) := by rw [← hw2]; exact setRow_heap _ _ _ _ _ _ ((tch_drewN wr nq).heap hls (by simp))
      have ng := LR.out.ng
      have nO := LR.out.nO
      have nB := LR.out.nB
      simp only [List.mem_cons, List.not_mem_nil, or_false, not_or] at ng nO nB
      have hg2 := t2.heap LR.out.hg (by simp; exact ng.2.2.2.2.1)
      have hB2 := t2.heap LR.out.hB (by simp; exact Ne.symm nO.2.2.2.2)
      have hD2 := LR.out.hD.touch t2 (by simp; exact Ne.symm nO.1) (by simp; exact Ne.symm nO.2.1) (by simp; exact Ne.symm nO.2.2.1) (by simp; exact Ne.symm nO.2.2.2.1)
      have i2 := IR.out.touch t2 (by intro b hb; cases hb; simp; exact no)
      have k2 := imgsAt_num i2 HQ2.out
      have d7 : w2.cell? ⟨g, 7, none⟩ = some (.slice (some ⟨B, 0, none⟩) S.pages S.pages) := by rw [cell_of_row w2 g 7 _ _ _ hg2]; rfl
      have hov : overs S.over (ws.take (j + 1)) = fun p => if p = (qn : Int) then some qx else overs S.over (ws.take j) p := by
        rw [List.take_add_one, HQ.out]
        unfold overs
        rw [List.foldl_append]
        rfl
      have hset := hasP_set { S with over := overs S.over (ws.take j) } qn qx hqp _ hov
      have fB := frozen_of_row w2 B qn _ _ hB2
      have cB : w2.cell? ⟨B, qn, none⟩ = some (.bool (overs S.over (ws.take j) (qn : Int)).isSome) := by
        rw [cell_of_row w2 B qn _ _ _ hB2]; exact hasP_get { S with over := overs S.over (ws.take j) } qn hqp
      have T2 := Lib.hid t2
      have O2 := Lib.hid hO2
      have G2 := Lib.hid hg2
      have B2 := Lib.hid hB2
      have D2 := Lib.hid hD2
      have HOV := Lib.hid hov
      have HSET := Lib.hid hset
      have HLS : Hid ((ls.set qn qx).length = S.pages ∧ ∀ (i : Nat) x, i < S.pages → overs S.over (ws.take (j + 1)) (i : Int) = some x → (ls.set qn qx)[i]? = some x) := by
        refine ⟨by rw [List.length_set]; exact hll, fun i x hi hx => ?_⟩
        rw [hov] at hx
        simp only at hx
        by_cases e : i = qn
        · subst e
          rw [if_pos rfl] at hx
          rw [List.getElem?_set_self (by omega)]
          exact hx
        · rw [if_neg (by omega)] at hx
          rw [List.getElem?_set_ne (Ne.symm e)]
          exact hlx i x hi hx
      have NS := Lib.hid (And.intro ng nB)
      rw [hw2]
      clear hw2 t2 hO2 hg2 hB2 hD2 i2 hov hset k0 c6 c7 hls hll hlx ng nO nB no nb
      go_upto_region 4 with fail
      (refine wp_region_walk (C := fun w' => ∃ n, w' = World.drewN w2 n) 10 (by kernel_rfl) (by kernel_rfl) ⟨1, rfl⟩ ?_; simp only [List.take_succ_cons, List.take_zero, List.drop_succ_cons, List.drop_zero]; (repeat (first | fail | go_big_quiet_step (fail))); refine wpQuiet_nil ?_; intro _ hw'; obtain ⟨nq, hw''⟩ := hw'; subst hw'')
      go_wp2_with fail
      go_roundg (m - (j + 1))
      case measure => omega
      case rel =>
        have t3 : Tch [] w2 (w2.drewN nq) := tch_drewN w2 nq
        have t4 : Tch [B] w2 ((w2.drewN nq).setCell ⟨B, qn, none⟩ (.bool true)) := (t3.mono (by simp)).setCell (by simp) _
        obtain ⟨ng, nB⟩ := NS.out
        refine ⟨j + 1, ⟨by omega, by go_num, rfl⟩, ⟨t4.heap G2.out (by simp; exact ng.2.2.2.2.2), D2.out.touch t4 (by simp; exact Ne.symm nB.1) (by simp; exact Ne.symm nB.2.1) (by simp; exact Ne.symm nB.2.2.1) (by simp; exact Ne.symm nB.2.2.2), ⟨_, t4.heap O2.out ?_, HLS.out.1, HLS.out.2⟩, ?_, LR.out.ng, LR.out.nO, LR.out.nB⟩, TR.out.trans ((T2.out.mono (by simp)).trans (t4.mono (by simp)))⟩
        · have := LR.out.nO
          simp at this ⊢
          exact this.2.2.2.2
        · rw [heap_setCell_cells (t3.heap B2.out (by simp)), HSET.out]
    · have hfull : ws.take j = ws := List.take_of_length_le (by rw [HM.out]; omega)
      rw [hfull] at LR
      have hjm' : j = m := by omega
      subst hjm'
      have c4 := LR.out.cell 4 rfl
      have c5 := LR.out.cell 5 rfl
      have f4 := LR.out.froz 4
      have f5 := LR.out.froz 5
      simp only at c4 c5
      have hgl := lt_of_heap LR.out.hg
      obtain ⟨u2, hu2⟩ : ∃ u2 : Nat, S.used + j + 2 = u2 := ⟨_, rfl⟩
      obtain ⟨r2, hr2⟩ : ∃ r2 : Nat, S.records + 1 = r2 := ⟨_, rfl⟩
      obtain ⟨w4, hw4⟩ : ∃ w4, wr.setCell ⟨g, 4, none⟩ (.int .i64 u2) = w4 := ⟨_, rfl⟩
      have eu : (S.used : Int) + j + 2 = u2 := by omega
      have er : IntKind.u64.wrap ((S.records : Int) + 1) = r2 := by simp [IntKind.wrap, IntKind.bits, IntKind.signed]; omega
      have hb4 : w4.heap[g]? = some (.cells #[.pointer (some ⟨r, 0, none⟩), .int .i64 S.log, .int .i64 S.pages, .int .u64 S.gen, .int .i64 u2, .int .u64 S.records, .slice (some ⟨O, 0, none⟩) S.pages S.pages, .slice (some ⟨B, 0, none⟩) S.pages S.pages, .bool S.dead] 52) := by rw [← hw4, heap_setCell_cells LR.out.hg]; rfl
      have c54 : w4.cell? ⟨g, 5, none⟩ = some (.int .u64 S.records) := by rw [cell_of_row w4 g 5 _ _ _ hb4]; rfl
      have f54 := frozen_of_row w4 g 5 _ _ hb4
      have HB4 := Lib.hid hb4
      have HW4 := Lib.hid hw4
      have HU2 := Lib.hid hu2
      have HR2 := Lib.hid hr2
      clear hw4 hb4 hfull hu2 hr2
      go_upto_region 6 with fail
      rw [HW4.out]
      go_wp2_with fail
      go_end0
      have t9 : Tch [g] wr (w4.setCell ⟨g, 5, none⟩ (.int .u64 r2)) := by rw [← HW4.out]; exact ((Tch.refl _ _).setCell (by simp) _).setCell (by simp) _
      have hl := LR.out
      have e9 : S.took ws = { S with over := overs S.over ws, used := u2, records := r2 } := by
        unfold LogS.took overs
        rw [HM.out, HU2.out, HR2.out]
      rw [e9]
      refine ⟨rfl, hl.head t9 rfl rfl rfl ?_, (TR.out.mono (by simp)).trans (t9.mono (by simp))⟩
      rw [heap_setCell_cells HB4.out]
      rfl
end Go.Proofs.YthbaipljlbddcaaGreat
/-
  The document's log: the next record: ciboriumref08's record.
-/
namespace Go.Cib
open Go Go.RowKit
theorem exec_slice_img {P : Program} {S T : TypeId} {a : Act} {w : World} {dst : Option Tmp} {ty : TypeId} {pos : String} {af : Array Edge} {gd : Option (Nat × Bool)} {x : Operand} (hz : ∃ i, P.info? T = some i ∧ i.zero = some (.agg (imageA 0 Arr.zero)) ∧ i.size = 481 ∧ i.bytes ≤ 600) (hS : P.underlying S = some (.slice T)) {n : Int} {p : Page} (hx : a.eval x = .agg (imageA n p)) :
    (execOp a.eval ⟨dst, .buildSlice S 1 #[(0, x)], ty, pos, af, gd⟩).run P w = .ok (.value (.slice (some ⟨w.heap.size, 0, none⟩) 1 1)) (w.alloc (.cells (imageA n p) T)) := by
  obtain ⟨i, h1, h2, h3, _⟩ := hz
  have hf := fill_one (c := (Array.range (1 * 481)).map (((Value.agg (imageA 0 Arr.zero)).cells)[· % ((Value.agg (imageA 0 Arr.zero)).cells).size]!)) (v := imageA n p) (m := 481) (by simp) (size_imageA n p)
  rw [Nat.one_mul] at hf
  generalize imageA n p = v at *
  generalize imageA 0 Arr.zero = z at *
  unfold execOp
  simp only [Instr.buildSlice, List.map_toArray, List.map_cons, List.map_nil, hx]
  simp [Sem.run_bind, run_underlying hS, sizeOf, typeInfo, zeroValue, h1, h2, h3, hf, newRow]
def namesTo (p : Page) (j : Nat) : List Nat := (List.range j).map (numAt p)
def intsOf (l : List Nat) : List Int := l.map fun (n : Nat) => (n : Int)
theorem length_namesTo (p : Page) (j : Nat) : (namesTo p j).length = j := by simp [namesTo]
theorem namesTo_succ (p : Page) (j : Nat) : namesTo p (j + 1) = namesTo p j ++ [numAt p j] := by simp [namesTo, List.range_succ]
theorem namesTo_get (p : Page) (j i : Nat) (h : i < j) : (namesTo p j)[i]? = some (numAt p i) := by unfold namesTo; rw [List.getElem?_map, List.getElem?_range h]; rfl
theorem intsOf_get (l : List Nat) (i n : Nat) (h : l[i]? = some n) : (intsOf l)[i]? = some (n : Int) := by unfold intsOf; rw [List.getElem?_map, h]; rfl
theorem num32s_ints (l : List Nat) (h : ∀ n ∈ l, n < 4294967296) : num32s (intsOf l) = l := by
  unfold num32s intsOf
  rw [List.map_map]
  conv => rhs; rw [← List.map_id l]
  exact List.map_congr_left fun n hn => num32_nat n (h n hn)
theorem names_split (f : FrameV) (j : Nat) (h : j < f.idx) : ∃ t, LogS.names f = namesTo f.page j ++ numAt f.page j :: t := by
  refine ⟨((List.range' (j + 1) (f.idx - (j + 1))).map (numAt f.page)), ?_⟩
  unfold LogS.names namesTo
  rw [List.range_eq_range', List.range_eq_range']
  have : List.range' 0 f.idx = List.range' 0 j ++ (j :: List.range' (j + 1) (f.idx - (j + 1))) := by
    have e1 := List.range'_append_1 (s := 0) (m := j) (n := f.idx - j)
    rw [show j + (f.idx - j) = f.idx by omega, Nat.zero_add] at e1
    rw [← e1]
    congr 1
    rw [show f.idx - j = (f.idx - (j + 1)) + 1 by omega, List.range'_succ]
  rw [this]
  simp
theorem ownInts_ints {w : World} {B : Nat} {e : TypeId} {v : Value} {l : List Int} (h : OwnInts w B e v l) : ∃ nb cap, v = .slice nb l.length cap ∧ (∀ k, nb = some k → ∃ b, k = ⟨b, 0, none⟩) ∧ ∀ (j : Nat) n, l[j]? = some n → ∃ b : Nat, nb = some ⟨b, 0, none⟩ ∧ w.cell? ⟨b, j, none⟩ = some (.int .i64 n) := by
  rcases h.shape with ⟨rfl, rfl⟩ | ⟨g, cap, cur, rfl, _, hg, _, _, _, ht⟩
  · exact ⟨none, 0, rfl, by simp, by simp⟩
  · refine ⟨some ⟨g, 0, none⟩, cap, rfl, fun k hk => ⟨g, by cases hk; rfl⟩, fun j n hj => ⟨g, rfl, ?_⟩⟩
    rw [cell_of_row w g j _ _ _ hg]
    have hlt := (List.getElem?_eq_some_iff.1 hj).1
    have h1 : (cur.toList.take l.length)[j]? = some (.int .i64 n) := by rw [ht, List.getElem?_map, hj]; rfl
    rw [List.getElem?_take, if_pos hlt, Array.getElem?_toList] at h1
    exact h1
end Go.Cib
namespace Go.Cib.LogS
open Go Go.RowKit
def imgsTo (S : LogS) (f : FrameV) (k : Nat) : List (Nat × Page) := (List.range k).map fun i => (numAt f.page i, (S.atF (S.used + 1 + i)).page)
theorem imgsTo_succ (S : LogS) (f : FrameV) (k : Nat) : S.imgsTo f (k + 1) = S.imgsTo f k ++ [(numAt f.page k, (S.atF (S.used + 1 + k)).page)] := by simp [imgsTo, List.range_succ]
theorem length_imgsTo (S : LogS) (f : FrameV) (k : Nat) : (S.imgsTo f k).length = k := by simp [imgsTo]
theorem imgsTo_all (S : LogS) (f : FrameV) : S.imgsTo f f.idx = S.images f := rfl
end Go.Cib.LogS
namespace Go.Proofs.YthbaipljlbddcaaGreat
open Go.RowKit Go.Cib
set_option maxRecDepth 20000 in
theorem cf_rnumbers (args : Array Value) (w : World) : (callFunc 21 args).run Tryz.prog w = .ok (.enter 21 args) w := rfl
def KRec (vI : Value) (nb ncap m k G : Nat) (p : Nat) (x : Page) : Nat → Value → World → Prop
  | 0, v, _ => v = vI
  | 1, v, _ => v = .slice (some ⟨nb, 0, none⟩) m ncap
  | 2, v, _ => v = .int .i64 k
  | 3, v, _ => v = .pointer (some ⟨nb, k, none⟩)
  | 4, v, _ => v = .int .i64 p
  | 5, v, _ => v = .pointer (some ⟨G, 4, none⟩)
  | 6, v, _ => v = .agg (secA x)
  | 7, v, _ => v = .agg (imageA p x)
  | _, v, w => ∃ i, v = .slice (some ⟨i, 0, none⟩) 1 1 ∧ w.heap[i]? = some (.cells (imageA p x) 68)
theorem KRec.later {vI : Value} {nb ncap m k G p : Nat} {x : Page} {j : Nat} {v : Value} {w w' : World} (h : KRec vI nb ncap m k G p x j v w) (ht : Tch [] w w') : KRec vI nb ncap m k G p x j v w' := by
  unfold KRec at h ⊢
  split at h <;> first | exact h | (obtain ⟨i, e, hk⟩ := h; exact ⟨i, e, ht.heap hk (by simp)⟩)
/-- What the first loop of record has gathered. -/
structure RecR (W wr : World) (pages : Nat) (l : List Nat) (v : Value) : Prop where
  nums : OwnInts wr W.heap.size 3 v (intsOf l)
  tch : Tch [] W wr
  lt : ∀ n ∈ l, n < pages
  nd : l.Nodup

set_option maxRecDepth 20000 in
set_option maxHeartbeats 4000000 in
theorem rrecord_any {w : World} {g r a b c O B : Nat} {S : LogS} (h : RLogAt w g r a b c O B S) (ok : RecOk S) :
    Calls Tryz.prog 60 #[.pointer (some ⟨g, 0, none⟩)] w fun e w' =>
      (S.record = none ∧ e = .returned (.bool false) ∧ Tch [] w w') ∨ ∃ ws, S.record = some ws ∧ e = .returned (.bool true) ∧ RLogAt w' g r a b c O B (S.took ws) ∧ Tch [g, O, B] w w' := by
  have H := Lib.hid h
  have OKK := Lib.hid ok
  have AT : Hid (∀ w1, Tch [] w w1 → ∀ place kind, place ≤ 100000 → Calls Tryz.prog 85 #[.pointer (some ⟨g, 0, none⟩), .int .i64 (place : Nat), .int .u8 (kind : UInt8).toNat] w1 fun e w' =>
      e = .returned (.tuple #[.agg (frameA (S.atF place)), .bool (S.atOk place kind)]) ∧ Tch [] w1 w') := fun w1 t1 place kind hp =>
    rframe_any (h.old t1) ok.alive ok.size place hp kind
  have c4 := h.cell 4 rfl
  have hlog := ok.log
  have hus := ok.used
  obtain ⟨f, hf⟩ : ∃ f, S.atF S.used = f := ⟨_, rfl⟩
  obtain ⟨ob, hob⟩ : ∃ ob, S.atOk S.used 2 = ob := ⟨_, rfl⟩
  have A0 : Hid (Calls Tryz.prog 85 #[.pointer (some ⟨g, 0, none⟩), .int .i64 S.used, .int .u8 2] w fun e w' => e = .returned (.tuple #[.agg (frameA f), .bool ob]) ∧ Tch [] w w') := by
    rw [← hf, ← hob]; exact AT.out w (Tch.refl _ _) S.used 2 (by omega)
  have HF := Lib.hid hf
  have HOB := Lib.hid hob
  have RN : Hid (∀ _ : ¬ (S.atOk S.used 2 = true ∧ 1 ≤ (S.atF S.used).idx ∧ (S.atF S.used).idx ≤ 120 ∧ S.used + (S.atF S.used).idx + 2 ≤ S.log ∧ S.listed (S.atF S.used) = true ∧
      (∀ k < (S.atF S.used).idx, S.atOk (S.used + 1 + k) 3 = true ∧ (S.atF (S.used + 1 + k)).idx = k) ∧
      S.atOk (S.used + 1 + (S.atF S.used).idx) 4 = true ∧ (S.atF (S.used + 1 + (S.atF S.used).idx)).idx = (S.atF S.used).idx ∧ (S.atF (S.used + 1 + (S.atF S.used).idx)).page = Arr.zero), S.record = none) := fun hn => by unfold LogS.record; rw [if_neg hn]
  have hokf : f.Ok := by
    rw [← hf]; unfold LogS.atF
    split
    · exact parse_ok _
    · exact ⟨by decide, by decide, by decide⟩
  have hidx := hokf.idx
  rw [hf, hob] at RN
  obtain ⟨m, hm⟩ : ∃ m, f.idx = m := ⟨_, rfl⟩
  have HM := Lib.hid hm
  clear h ok hf hob hokf
  go_enter Tryz.func60, Tryz.ntmps60
  go_upto_region 2 with (first | (go_at_call 85; refine A0.out.mono ?_; rintro e w1 ⟨rfl, q1⟩; have T1 := Lib.hid q1; clear q1) | ((with_reducible refine wc_alloc_frame rframeTT ?_); go_frame) | ((with_reducible apply wc_store_frame rframeTT (heap_alloc_new w1 (.cells (frameA FrameV.zero) 75)) (g := f)); exact rfl; exact rfl; go_frame; rw [setRow_alloc_new]))
  obtain ⟨F, hF⟩ : ∃ F, w1.heap.size = F := ⟨_, rfl⟩
  obtain ⟨W, hW⟩ : ∃ W, w1.alloc (.cells (frameA f) 75) = W := ⟨_, rfl⟩
  have bF : W.heap[F]? = some (.cells (frameA f) 75) := by rw [← hW, ← hF]; exact heap_alloc_new _ _
  have tW : Tch [] w W := by rw [← hW]; exact T1.out.alloc _
  rw [hF, hW]
  obtain ⟨k0, k1, k2, k3⟩ := frame_cell bF
  rw [hm] at k3 hidx
  have hw := H.out.old tW
  have c1W := hw.cell 1 rfl
  have c4W := hw.cell 4 rfl
  have BF := Lib.hid bF
  have TW := Lib.hid tW
  clear hF hW bF tW hw A0 T1 k0 k1 k2 c4 hm
  by_cases h1 : ob = true
  rotate_left
  · have hb : ob = false := by simpa using h1
    have E := Lib.hid (RN.out (fun hh => h1 hh.1))
    subst hb
    clear h1
    (refine wp_region_walk (C := fun w' => ∃ n, w' = World.drewN W n) 28 (by kernel_rfl) (by kernel_rfl) ⟨1, rfl⟩ ?_; simp only [List.take_succ_cons, List.take_zero, List.drop_succ_cons, List.drop_zero]; (repeat (first | fail | go_big_quiet_step (fail))); refine wpQuiet_nil ?_; intro _ hw'; obtain ⟨nq, hw''⟩ := hw'; subst hw'')
    go_wp2_with fail
    go_ret
    exact .inl ⟨E.out, rfl, TW.out.trans (tch_drewN W nq)⟩
  subst h1
  by_cases h2 : 1 ≤ m
  rotate_left
  · have E := Lib.hid (RN.out (fun hh => h2 (by have := hh.2.1; rw [HM.out] at this; exact this)))
    have h2' : (m : Int) < 1 := by omega
    (refine wp_region_walk (C := fun w' => ∃ n, w' = World.drewN W n) 28 (by kernel_rfl) (by kernel_rfl) ⟨1, rfl⟩ ?_; simp only [List.take_succ_cons, List.take_zero, List.drop_succ_cons, List.drop_zero]; (repeat (first | fail | go_big_quiet_step (fail))); refine wpQuiet_nil ?_; intro _ hw'; obtain ⟨nq, hw''⟩ := hw'; subst hw'')
    go_wp2_with fail
    go_ret
    exact .inl ⟨E.out, rfl, TW.out.trans (tch_drewN W nq)⟩
  have h2' : ¬ ((m : Int) < 1) := by omega
  by_cases h3 : m ≤ 120
  rotate_left
  · have E := Lib.hid (RN.out (fun hh => h3 (by have := hh.2.2.1; rw [HM.out] at this; exact this)))
    have h3' : (120 : Int) < m := by omega
    (refine wp_region_walk (C := fun w' => ∃ n, w' = World.drewN W n) 28 (by kernel_rfl) (by kernel_rfl) ⟨1, rfl⟩ ?_; simp only [List.take_succ_cons, List.take_zero, List.drop_succ_cons, List.drop_zero]; (repeat (first | fail | go_big_quiet_step (fail))); refine wpQuiet_nil ?_; intro _ hw'; obtain ⟨nq, hw''⟩ := hw'; subst hw'')
    go_wp2_with fail
    go_ret
    exact .inl ⟨E.out, rfl, TW.out.trans (tch_drewN W nq)⟩
  have h3' : ¬ ((120 : Int) < m) := by omega
  by_cases h4 : S.used + m + 2 ≤ S.log
  rotate_left
  · have E := Lib.hid (RN.out (fun hh => h4 (by have := hh.2.2.2.1; rw [HM.out] at this; exact this)))
    have h4' : (S.log : Int) < S.used + 2 + m := by omega
    (refine wp_region_walk (C := fun w' => ∃ n, w' = World.drewN W n) 28 (by kernel_rfl) (by kernel_rfl) ⟨1, rfl⟩ ?_; simp only [List.take_succ_cons, List.take_zero, List.drop_succ_cons, List.drop_zero]; (repeat (first | fail | go_big_quiet_step (fail))); refine wpQuiet_nil ?_; intro _ hw'; obtain ⟨nq, hw''⟩ := hw'; subst hw'')
    go_wp2_with fail
    go_ret
    exact .inl ⟨E.out, rfl, TW.out.trans (tch_drewN W nq)⟩
  have h4' : ¬ (S.log : Int) < S.used + 2 + m := by omega
  (refine wp_region_walk (C := fun w' => ∃ n, w' = World.drewN W n) 28 (by kernel_rfl) (by kernel_rfl) ⟨1, rfl⟩ ?_; simp only [List.take_succ_cons, List.take_zero, List.drop_succ_cons, List.drop_zero]; (repeat (first | fail | go_big_quiet_step (fail))); refine wpQuiet_nil ?_; intro _ hw'; obtain ⟨nq, hw''⟩ := hw'; subst hw'')
  have T2 := Lib.hid (TW.out.trans (tch_drewN W nq))
  have BF2 := Lib.hid ((tch_drewN W nq).heap BF.out (by simp))
  have k32 := cell_old (tch_drewN W nq) k3
  clear k3 c1W c4W BF TW
  generalize W.drewN nq = W2 at *
  have hFW2 : F < W2.heap.size := lt_of_heap BF2.out
  have hwW2 : w.heap.size ≤ W2.heap.size := T2.out.size
  go_wp2_with fail
  go_loopg [6, 7, 8, 9] m (fun q v6 i _ _ wr => ∃ j, OnAt m i q j ∧ RecR W2 wr S.pages (namesTo f.page j) v6)
  case atStart => exact ⟨0, ⟨Nat.zero_le _, rfl, rfl⟩, ⟨ownInts_nil _ _ _, Tch.refl _ _, by simp [namesTo], by simp [namesTo]⟩⟩
  case round =>
    obtain ⟨j, ⟨hj, rfl, rfl⟩, hr⟩ := hrel
    have hlr := H.out.old (T2.out.trans hr.tch)
    have c2 := hlr.cell 2 rfl
    have bR := Lib.hid (hr.tch.heap BF2.out (by simp))
    have HL := Lib.hid hlr
    have R := Lib.hid hr
    obtain ⟨na, ncap, hv6, hna, hvals⟩ := ownInts_ints hr.nums
    have hlen : (intsOf (namesTo f.page j)).length = j := by unfold intsOf; rw [List.length_map, length_namesTo]
    rw [hlen] at hv6
    have HV := Lib.hid hvals
    have HNA := Lib.hid hna
    have HWR := Lib.hid hr.tch.size
    subst hv6
    clear hr hlr hvals hlen hna
    by_cases hjm : j < m
    · obtain ⟨n, hn⟩ : ∃ n, numAt f.page j = n := ⟨_, rfl⟩
      have hn32 : n < 4294967296 := by rw [← hn]; exact numAt_lt _ _
      have hnext : namesTo f.page (j + 1) = namesTo f.page j ++ [n] := by rw [namesTo_succ, hn]
      obtain ⟨tl, hnm⟩ := names_split f j (by rw [HM.out]; exact hjm)
      rw [hn] at hnm
      have CP : Hid (Calls Tryz.prog 59 #[.agg (secA f.page), .int .i64 j] wr fun e w' => e = .returned (.int .i64 n) ∧ Tch [] wr w') := by
        rw [← hn]; exact rnumber_any f.page j (by omega) wr
      have HN := Lib.hid hn
      have HNX := Lib.hid hnext
      have HNM := Lib.hid hnm
      clear hn hnext hnm
      go_wp2_with (first | ((with_reducible refine wc_load_framepage pageT.agg bR.out ?_ ?_); exact rfl; go_frame) | (go_at_call 59; refine CP.out.mono ?_; rintro e w3 ⟨rfl, q1⟩; have c23 := cell_old q1 c2; have T3 := Lib.hid q1; clear q1))
      go_loopg [9] j (fun q i wr => ∃ k, OnAt j i q k ∧ w3 = wr ∧ n ∉ namesTo f.page k)
      case atStart => exact ⟨0, ⟨Nat.zero_le _, rfl, rfl⟩, rfl, by simp [namesTo]⟩
      case round =>
        obtain ⟨k, ⟨hk, rfl, rfl⟩, rfl, hnk⟩ := hrel
        have HNK := Lib.hid hnk
        clear hnk
        by_cases hkj : k < j
        · obtain ⟨x, hx⟩ : ∃ x, numAt f.page k = x := ⟨_, rfl⟩
          have hxk : (namesTo f.page j)[k]? = some x := by rw [namesTo_get _ _ _ hkj, hx]
          obtain ⟨nb, rfl, hc⟩ := HV.out k x (intsOf_get _ _ _ hxk)
          have cN := cell_old T3.out hc
          have HX := Lib.hid hx
          clear hc hx
          by_cases hxn : x = n
          · have E := Lib.hid (RN.out (fun hh => by
              have hl := hh.2.2.2.2.1
              unfold LogS.listed at hl
              rw [HNM.out] at hl
              have hnd : ¬ (namesTo f.page j ++ n :: tl).Nodup := fun hd => by
                refine (List.nodup_append.1 hd).2.2 n ?_ n (by simp) rfl
                rw [← hxn]
                exact List.mem_of_getElem? hxk
              rw [decide_eq_false hnd] at hl
              simp at hl))
            have hb : ((x : Int) == n) = true := by simp [hxn]
            clear hxn hxk
            go_wp2_with fail
            go_ret
            exact .inl ⟨E.out, rfl, T2.out.trans (R.out.tch.trans T3.out)⟩
          · have hb : ((x : Int) == n) = false := by simp; omega
            have HXN := Lib.hid hxn
            clear hxn hxk
            go_wp2_with fail
            go_roundg (j - (k + 1))
            case measure => omega
            case rel =>
              refine ⟨k + 1, ⟨by omega, by go_num, rfl⟩, rfl, ?_⟩
              rw [namesTo_succ, HX.out]
              intro hm
              rcases List.mem_append.1 hm with hm | hm
              · exact HNK.out hm
              · exact HXN.out (List.mem_singleton.1 hm).symm
        · have hkj' : k = j := by omega
          subst hkj'
          by_cases hp : S.pages ≤ n
          · have E := Lib.hid (RN.out (fun hh => by
              have hl := hh.2.2.2.2.1
              unfold LogS.listed at hl
              rw [HNM.out, decide_eq_false (fun hh => by have := hh n (by simp); omega)] at hl
              simp at hl))
            have hp' : ((S.pages : Int) ≤ n) := by omega
            go_wp2_with fail
            go_ret
            exact .inl ⟨E.out, rfl, T2.out.trans (R.out.tch.trans T3.out)⟩
          · have hp' : ¬ ((S.pages : Int) ≤ n) := by omega
            have O5 : Hid (OwnInts (w3.alloc (.cells #[.int .i64 n] 3)) W2.heap.size 3 (.slice na k ncap) (intsOf (namesTo f.page k))) := (R.out.nums.kept T3.out (by simp)).kept ((Tch.refl [] _).alloc _) (by simp)
            have hw3 := T3.out.size
            have hww := HWR.out
            have hll : (intsOf (namesTo f.page k)).length ≤ 1000 := by unfold intsOf; rw [List.length_map, length_namesTo]; omega
            go_wp2_with ((with_reducible apply wc_append_int intsT O5.out (by simp; omega) (by omega)); exact rfl; exact rfl; exact rfl; exact rfl; exact (World.cell?_alloc_new _ _ _ _).trans rfl; intro v6 w6 ho6 ht6; go_frame; have HO6 := Lib.hid ho6; have HT6 := Lib.hid ht6; clear ho6 ht6)
            go_roundg (m - (k + 1))
            case measure => omega
            case rel =>
              have t5 : Tch [] W2 (w3.alloc (.cells #[.int .i64 n] 3)) := (R.out.tch.trans T3.out).alloc _
              refine ⟨k + 1, ⟨by omega, by go_num, rfl⟩, ?_⟩
              rw [HNX.out]
              refine ⟨by unfold intsOf; rw [List.map_append]; exact HO6.out, tch_own t5 HT6.out (fun q hq => (O5.out.lt q hq).1), ?_, ?_⟩
              · intro x hx
                rcases List.mem_append.1 hx with hx | hx
                · exact R.out.lt x hx
                · rw [List.mem_singleton.1 hx]; omega
              · refine List.nodup_append.2 ⟨R.out.nd, by simp, ?_⟩
                rintro y hy z hz rfl
                rw [List.mem_singleton] at hz
                exact HNK.out (hz ▸ hy)
    · have hjm' : j = m := by omega
      subst hjm'
      have hnm : LogS.names f = namesTo f.page j := by unfold LogS.names namesTo; rw [HM.out]
      have hb : S.listed f = decide (f.page = numsPage (namesTo f.page j)) := by
        unfold LogS.listed
        rw [hnm, decide_eq_true R.out.lt, decide_eq_true R.out.nd]; rfl
      have CN : Hid (∀ w', Tch [] wr w' → Calls Tryz.prog 21 #[.slice na j ncap] w' fun e w'' => e = .returned (.agg (secA (numsPage (namesTo f.page j)))) ∧ Tch [] wr w'') := fun w' ht => by
        have hI : IntsAt wr na (intsOf (namesTo f.page j)) := fun i x hi => by
          obtain ⟨b, hb, hc⟩ := HV.out i x hi
          exact ⟨b, 0, hb, by rw [Nat.zero_add]; exact hc⟩
        have hll : (intsOf (namesTo f.page j)).length = j := by unfold intsOf; rw [List.length_map, length_namesTo]
        have := rnumbers_any (cap := ncap) (ints_old hI ht) (by omega)
        rw [hll, num32s_ints _ (fun n hn => by obtain ⟨i, _, rfl⟩ := List.mem_map.1 hn; exact numAt_lt _ _)] at this
        exact this.mono (by rintro e w'' ⟨h1, h2⟩; exact ⟨h1, ht.trans h2⟩)
      have KF : Hid (∀ w', Tch [] wr w' → w'.heap[F]? = some (.cells (frameA f) 75)) := fun w' ht => ht.heap bR.out (by simp)
      have HB := Lib.hid hb
      clear hb hnm c2
      go_upto_region 18 with fail
      refine wp_region_walk (C := fun w' => Tch [] wr w') 5 (by kernel_rfl) (by kernel_rfl) ((Tch.refl _ _).drew) ?_
      simp only [List.take_succ_cons, List.take_zero, List.drop_succ_cons, List.drop_zero]
      (repeat (first
          | ((with_reducible refine wq_load_framepage pageT.agg KF.out ?_ ?_ ?_); exact rfl; exact rfl; go_frame)
          | ((with_reducible refine wq_fn cf_rnumbers ?_ ?_ CN.out ?_); exact rfl; exact rfl; go_frame)
          | ((with_reducible refine wq_neq_arr pageT (s := f.page) (t := numsPage (namesTo f.page j)) ?_ ?_ ?_ ?_); exact rfl; exact rfl; exact rfl; go_frame)
          | go_big_quiet_skip | (go_big_quiet_want; go_big_quiet_op; first | go_big_quiet_on | (refine ⟨_, fun _ _ => rfl, ?_⟩; go_big_quiet_on))))
      refine wpQuiet_nil ?_
      intro w3 ht3
      have T3 := Lib.hid (T2.out.trans (R.out.tch.trans ht3))
      have I3 := Lib.hid (R.out.nums.kept ht3 (by simp))
      have BF3 := Lib.hid (ht3.heap bR.out (by simp))
      have HW3 : Hid (W2.heap.size ≤ w3.heap.size) := (R.out.tch.trans ht3).size
      have HV3 : Hid (∀ (i : Nat) n, (intsOf (namesTo f.page j))[i]? = some n → ∃ b : Nat, na = some ⟨b, 0, none⟩ ∧ w3.cell? ⟨b, i, none⟩ = some (.int .i64 n)) := fun i n hi => by
        obtain ⟨b, h1, h2⟩ := HV.out i n hi
        exact ⟨b, h1, cell_old ht3 h2⟩
      have HLT := Lib.hid R.out.lt
      clear CN KF ht3 HV bR
      by_cases hpg : f.page = numsPage (namesTo f.page j)
      rotate_left
      · have E := Lib.hid (RN.out (fun hh => by
          have hl := hh.2.2.2.2.1
          rw [HB.out, decide_eq_false hpg] at hl
          cases hl))
        have hb : decide (f.page = numsPage (namesTo f.page j)) = false := by simp [hpg]
        clear hpg
        rw [hb]
        go_wp2_with fail
        go_ret
        exact .inl ⟨E.out, rfl, T3.out⟩
      have HLB : Hid (S.listed f = true) := by show _ = _; rw [HB.out, decide_eq_true hpg]
      have hb : decide (f.page = numsPage (namesTo f.page j)) = true := by simp [← hpg]
      clear hpg HB
      rw [hb]
      go_wp2_with fail
      go_loopg [10, 11] j (fun q v10 i wr => ∃ k, OnAt j i q k ∧ OwnImgs wr w3.heap.size 68 v10 ((S.imgsTo f k).map fun q => ((q.1 : Int), q.2)) ∧ Tch [] w3 wr ∧ ∀ i < k, S.atOk (S.used + 1 + i) 3 = true ∧ (S.atF (S.used + 1 + i)).idx = i)
      case atStart => exact ⟨0, ⟨Nat.zero_le _, rfl, rfl⟩, ownImgs_nil _ _ _, Tch.refl _ _, fun i hi => by omega⟩
      case round =>
        obtain ⟨k, ⟨hk, rfl, rfl⟩, him, ht, hall⟩ := hrel
        have tw : Tch [] w wr := T3.out.trans ht
        have hl := H.out.old tw
        have c4 := hl.cell 4 rfl
        have IM := Lib.hid him
        have TR := Lib.hid ht
        have ALL := Lib.hid hall
        have TWR := Lib.hid tw
        clear him ht hall hl
        by_cases hkm : k < j
        · obtain ⟨fk, hfk⟩ : ∃ fk, S.atF (S.used + 1 + k) = fk := ⟨_, rfl⟩
          obtain ⟨bk, hbk⟩ : ∃ bk, S.atOk (S.used + 1 + k) 3 = bk := ⟨_, rfl⟩
          have AK : Hid (Calls Tryz.prog 85 #[.pointer (some ⟨g, 0, none⟩), .int .i64 ((S.used : Int) + 1 + k), .int .u8 3] wr fun e w' => e = .returned (.tuple #[.agg (frameA fk), .bool bk]) ∧ Tch [] wr w') := by
            have := AT.out wr TWR.out (S.used + 1 + k) 3 (by omega)
            rw [hfk, hbk, show ((S.used + 1 + k : Nat) : Int) = (S.used : Int) + 1 + k by omega] at this
            exact this
          have HFK := Lib.hid hfk
          have HBK := Lib.hid hbk
          have hfi : fk.idx < 4294967296 := by
            rw [← hfk]; unfold LogS.atF
            split
            · exact (parse_ok _).idx
            · decide
          have W3k := convU32 k (by omega)
          clear hfk hbk tw
          go_upto_region 25 with (first | (go_at_call 85; refine AK.out.mono ?_; rintro e w5 ⟨rfl, q1⟩; have T5 := Lib.hid q1; clear q1) | ((with_reducible refine wc_alloc_frame rframeTT ?_); go_frame) | ((with_reducible apply wc_store_frame rframeTT (heap_alloc_new w5 (.cells (frameA FrameV.zero) 75)) (g := fk)); exact rfl; exact rfl; go_frame; rw [setRow_alloc_new]))
          obtain ⟨G, hG⟩ : ∃ G, w5.heap.size = G := ⟨_, rfl⟩
          obtain ⟨w6, hw6⟩ : ∃ w6, w5.alloc (.cells (frameA fk) 75) = w6 := ⟨_, rfl⟩
          have bG : w6.heap[G]? = some (.cells (frameA fk) 75) := by rw [← hw6, ← hG]; exact heap_alloc_new _ _
          have t6 : Tch [] wr w6 := by rw [← hw6]; exact T5.out.alloc _
          obtain ⟨_, _, _, kG⟩ := frame_cell bG
          rw [hG, hw6]
          have BG := Lib.hid bG
          have T6 := Lib.hid t6
          have I6 := Lib.hid (IM.out.kept t6 (by simp))
          clear hG hw6 bG t6 c4 T5
          by_cases p1 : bk = true
          rotate_left
          · have pb : bk = false := by simpa using p1
            have E := Lib.hid (RN.out (fun hh => p1 (by have := (hh.2.2.2.2.2.1 k (by rw [HM.out]; exact hkm)).1; rw [HBK.out] at this; exact this)))
            subst pb
            clear p1
            go_wp2_with fail
            go_ret
            exact .inl ⟨E.out, rfl, TWR.out.trans T6.out⟩
          subst p1
          by_cases p2 : fk.idx = k
          rotate_left
          · have E := Lib.hid (RN.out (fun hh => p2 (by have := (hh.2.2.2.2.2.1 k (by rw [HM.out]; exact hkm)).2; rw [HFK.out] at this; exact this)))
            have p2' : ((fk.idx : Int) != k) = true := by simp; omega
            clear p2
            go_wp2_with fail
            go_ret
            exact .inl ⟨E.out, rfl, TWR.out.trans T6.out⟩
          have p2' : ((fk.idx : Int) != k) = false := by simp; omega
          have P2 := Lib.hid p2
          clear p2
          go_upto_region 27 with fail
          obtain ⟨p, hp⟩ : ∃ p, numAt f.page k = p := ⟨_, rfl⟩
          obtain ⟨nb, rfl, hc⟩ := HV3.out k p (intsOf_get _ _ _ (by rw [namesTo_get _ _ _ hkm, hp]))
          have cN := cell_old (TR.out.trans T6.out) hc
          obtain ⟨x, hx⟩ : ∃ x, fk.page = x := ⟨_, rfl⟩
          have FI : Hid (fillI 0 Arr.zero [(0, .int .i64 p), (1, .agg (secA x))] = some (imageA p x)) := by
            show fillI 0 Arr.zero [(0, .int .i64 p), (1, .agg (secA x))] = _
            rw [fillI_num, fillI_page, fillI_nil]
          have HP := Lib.hid hp
          have HX := Lib.hid hx
          have hwW6 : w3.heap.size ≤ w6.heap.size := (TR.out.trans T6.out).size
          clear hc hp hx kG p2'
          refine wp_region_valt 9 (fun w' => Tch [] w6 w') (KRec u10 nb ncap j k G p x) (by kernel_rfl) (by kernel_rfl) (by kernel_rfl) ((Tch.refl _ _).drew) (fun w4 w5 _ _ ht i v hk => hk.later ht) ?_ ?_
          · intro i o hi ho fu w' hC hold hdep
            have cN' := cell_old hC cN
            have hi7 : i = 0 ∨ i = 1 ∨ i = 2 ∨ i = 3 ∨ i = 4 ∨ i = 5 ∨ i = 6 ∨ i = 7 ∨ i = 8 := by omega
            rcases hi7 with rfl | rfl | rfl | rfl | rfl | rfl | rfl | rfl | rfl
            all_goals (simp only [List.getElem?_cons_zero, List.getElem?_cons_succ, Option.some.injEq] at ho; subst ho)
            · refine step_plain rfl ?_
              have x10 : fu.tmps[10]?.getD undef = u10 := ev_tmp (hold 10 (by show _ < 157; omega) (by kernel_rfl))
              go_simp
              exact ⟨rfl, Tch.refl _ _⟩
            · refine step_plain rfl ?_
              have x6 : fu.tmps[6]?.getD undef = .slice (some ⟨nb, 0, none⟩) j ncap := ev_tmp (hold 6 (by show _ < 157; omega) (by kernel_rfl))
              go_simp
              exact ⟨rfl, Tch.refl _ _⟩
            · refine step_plain rfl ?_
              have x11 : fu.tmps[11]?.getD undef = .int .i64 k := ev_tmp (hold 11 (by show _ < 157; omega) (by kernel_rfl))
              go_simp
              exact ⟨rfl, Tch.refl _ _⟩
            · refine step_plain rfl ?_
              have x118 : fu.tmps[118]?.getD undef = .slice (some ⟨nb, 0, none⟩) j ncap := ev_tmp (hdep 1 118 (by show _ < 157; omega) (by kernel_rfl) (by kernel_rfl))
              have x119 : fu.tmps[119]?.getD undef = .int .i64 k := ev_tmp (hdep 2 119 (by show _ < 157; omega) (by kernel_rfl) (by kernel_rfl))
              go_simp
              exact ⟨rfl, Tch.refl _ _⟩
            · refine step_plain rfl ?_
              have x120 : fu.tmps[120]?.getD undef = .pointer (some ⟨nb, k, none⟩) := ev_tmp (hdep 3 120 (by show _ < 157; omega) (by kernel_rfl) (by kernel_rfl))
              go_simp
              exact ⟨rfl, Tch.refl _ _⟩
            · refine step_plain rfl ?_
              have x12 : fu.tmps[12]?.getD undef = .pointer (some ⟨G, 0, none⟩) := ev_tmp (hold 12 (by show _ < 157; omega) (by kernel_rfl))
              go_simp
              exact ⟨rfl, Tch.refl _ _⟩
            · refine step_plain rfl ?_
              have x122 : fu.tmps[122]?.getD undef = .pointer (some ⟨G, 4, none⟩) := ev_tmp (hdep 5 122 (by show _ < 157; omega) (by kernel_rfl) (by kernel_rfl))
              have x122' : fu.eval (.tmp 122) = .pointer (some ⟨G, 4, none⟩) := by show fu.tmps.getD 122 undef = _; rw [Array.getD_eq_getD_getElem?]; exact x122
              exact stpR_ok (exec_load_framepage pageT.agg rfl (hC.heap BG.out (by simp)) x122') ⟨by show Value.agg _ = _; rw [HX.out], hC, Tch.refl _ _⟩
            · refine step_plain rfl ?_
              have x121 : fu.tmps[121]?.getD undef = .int .i64 p := ev_tmp (hdep 4 121 (by show _ < 157; omega) (by kernel_rfl) (by kernel_rfl))
              have x123 : fu.tmps[123]?.getD undef = .agg (secA x) := ev_tmp (hdep 6 123 (by show _ < 157; omega) (by kernel_rfl) (by kernel_rfl))
              have x121' : fu.eval (.tmp 121) = .int .i64 p := by show fu.tmps.getD 121 undef = _; rw [Array.getD_eq_getD_getElem?]; exact x121
              have x123' : fu.eval (.tmp 123) = .agg (secA x) := by show fu.tmps.getD 123 undef = _; rw [Array.getD_eq_getD_getElem?]; exact x123
              exact stpR_ok (exec_build_fill imgZero imgFields imgPl (by simp only [List.map_cons, List.map_nil, x121', x123']) FI.out) ⟨rfl, hC, Tch.refl _ _⟩
            · refine step_plain rfl ?_
              have x124 : fu.tmps[124]?.getD undef = .agg (imageA p x) := ev_tmp (hdep 7 124 (by show _ < 157; omega) (by kernel_rfl) (by kernel_rfl))
              have x124' : fu.eval (.tmp 124) = .agg (imageA p x) := by show fu.tmps.getD 124 undef = _; rw [Array.getD_eq_getD_getElem?]; exact x124
              exact stpR_ok (exec_slice_img imgInfo imgsS x124') ⟨⟨_, rfl, heap_alloc_new _ _⟩, hC.alloc _, (Tch.refl _ _).alloc _⟩
          · intro vs w8 hC hK
            have x0 : vs 0 = u10 := hK 0 (by omega)
            obtain ⟨i8, x8, hi8⟩ : ∃ i, vs 8 = .slice (some ⟨i, 0, none⟩) 1 1 ∧ w8.heap[i]? = some (.cells (imageA p x) 68) := hK 8 (by omega)
            have X0 := Lib.hid x0
            have X8 := Lib.hid x8
            have B8 := Lib.hid hi8
            have T8 := Lib.hid (T6.out.trans hC)
            have I8 := Lib.hid (I6.out.kept hC (by simp))
            have hw8 : w3.heap.size ≤ w8.heap.size := Nat.le_trans hwW6 hC.size
            clear hK hC x0 x8 hi8 cN
            unfold fullOf
            rw [show (List.range 9).map vs = [vs 0, vs 1, vs 2, vs 3, vs 4, vs 5, vs 6, vs 7, vs 8] from rfl, X0.out, X8.out]
            generalize vs 1 = v1
            generalize vs 2 = v2
            generalize vs 3 = v3
            generalize vs 4 = v4
            generalize vs 5 = v5
            generalize vs 6 = v6
            generalize vs 7 = v7
            clear X0 X8 vs
            simp only [List.take_succ_cons, List.take_zero, List.drop_succ_cons, List.drop_zero, putAll]
            go_frame
            have hil : ((S.imgsTo f k).map fun q => ((q.1 : Int), q.2)).length ≤ 100000 := by rw [List.length_map, LogS.length_imgsTo]; omega
            go_wp2_with (at_builtin; refine wc_append_img (x := .tmp 117) (y := .tmp 125) imgInfo imgsS (q := ((p : Int), x)) I8.out hw8 hil rfl rfl rfl rfl B8.out ?_; intro v9 w9 ho9 ht9; go_frame; have HO9 := Lib.hid ho9; have T9 := Lib.hid (tch_own (TR.out.trans T8.out) (S := u10.ownBlock.toList) (ht9) (fun k hk => (I8.out.lt k hk).1)); clear ho9 ht9)
            go_roundg (j - (k + 1))
            case measure => omega
            case rel =>
              refine ⟨k + 1, ⟨by omega, by go_num, rfl⟩, ?_, T9.out, fun i hi => ?_⟩
              · rw [LogS.imgsTo_succ, List.map_append, HFK.out, HP.out, HX.out]
                exact HO9.out
              · rcases Nat.lt_or_ge i k with h | h
                · exact ALL.out i h
                · have : i = k := by omega
                  subst this
                  exact ⟨HBK.out, by rw [HFK.out]; exact P2.out⟩
        · have hkm' : k = j := by omega
          subst hkm'
          obtain ⟨fe, hfe⟩ : ∃ fe, S.atF (S.used + 1 + k) = fe := ⟨_, rfl⟩
          obtain ⟨be, hbe⟩ : ∃ be, S.atOk (S.used + 1 + k) 4 = be := ⟨_, rfl⟩
          have AK : Hid (Calls Tryz.prog 85 #[.pointer (some ⟨g, 0, none⟩), .int .i64 ((S.used : Int) + 1 + k), .int .u8 4] wr fun e w' => e = .returned (.tuple #[.agg (frameA fe), .bool be]) ∧ Tch [] wr w') := by
            have := AT.out wr TWR.out (S.used + 1 + k) 4 (by omega)
            rw [hfe, hbe, show ((S.used + 1 + k : Nat) : Int) = (S.used : Int) + 1 + k by omega] at this
            exact this
          have hfi : fe.idx < 4294967296 := by
            rw [← hfe]; unfold LogS.atF
            split
            · exact (parse_ok _).idx
            · decide
          have e0 : S.atF S.used = f := HF.out
          have hrec : S.record = if be = true ∧ fe.idx = k ∧ fe.page = Arr.zero then some (S.images f) else none := by
            by_cases hc : be = true ∧ fe.idx = k ∧ fe.page = Arr.zero
            · rw [if_pos hc]
              unfold LogS.record
              rw [e0, HM.out, hfe, hbe, if_pos ⟨HOB.out, h2, h3, h4, HLB.out, ALL.out, hc.1, hc.2.1, hc.2.2⟩]
            · rw [if_neg hc]
              refine RN.out (fun hh => hc ?_)
              have := hh.2.2.2.2.2.2
              rw [HM.out, hfe, hbe] at this
              exact this
          have HREC := Lib.hid hrec
          clear hfe hbe tw hrec e0
          go_upto_region 29 with (first | (go_at_call 85; refine AK.out.mono ?_; rintro e w5 ⟨rfl, q1⟩; have T5 := Lib.hid q1; clear q1) | ((with_reducible refine wc_alloc_frame rframeTT ?_); go_frame) | ((with_reducible apply wc_store_frame rframeTT (heap_alloc_new w5 (.cells (frameA FrameV.zero) 75)) (g := fe)); exact rfl; exact rfl; go_frame; rw [setRow_alloc_new]))
          obtain ⟨G, hG⟩ : ∃ G, w5.heap.size = G := ⟨_, rfl⟩
          obtain ⟨w6, hw6⟩ : ∃ w6, w5.alloc (.cells (frameA fe) 75) = w6 := ⟨_, rfl⟩
          have bG : w6.heap[G]? = some (.cells (frameA fe) 75) := by rw [← hw6, ← hG]; exact heap_alloc_new _ _
          have t6 : Tch [] wr w6 := by rw [← hw6]; exact T5.out.alloc _
          obtain ⟨_, _, _, kG⟩ := frame_cell bG
          rw [hG, hw6]
          have BG := Lib.hid bG
          have T6 := Lib.hid t6
          have I6 := Lib.hid (IM.out.kept t6 (by simp))
          clear hG hw6 bG t6 c4 T5
          by_cases p1 : be = true
          rotate_left
          · have pb : be = false := by simpa using p1
            have E : Hid (S.record = none) := by show _ = _; rw [HREC.out, if_neg (fun hh => p1 hh.1)]
            subst pb
            clear p1
            go_wp2_with fail
            go_ret
            exact .inl ⟨E.out, rfl, TWR.out.trans T6.out⟩
          subst p1
          by_cases p2 : fe.idx = k
          rotate_left
          · have E : Hid (S.record = none) := by show _ = _; rw [HREC.out, if_neg (fun hh => p2 hh.2.1)]
            have p2' : ((fe.idx : Int) != k) = true := by simp; omega
            clear p2
            go_wp2_with fail
            go_ret
            exact .inl ⟨E.out, rfl, TWR.out.trans T6.out⟩
          have p2' : ((fe.idx : Int) != k) = false := by simp; omega
          have P2 := Lib.hid p2
          clear p2
          by_cases p3 : fe.page = Arr.zero
          rotate_left
          · have E : Hid (S.record = none) := by show _ = _; rw [HREC.out, if_neg (fun hh => p3 hh.2.2)]
            have p3' : decide (fe.page = Arr.zero) = false := by simp [p3]
            clear p3
            go_wp2_with (first | ((with_reducible refine wcg_load_framepage pageT.agg BG.out ?_ ?_ ?_); exact rfl; exact rfl; go_frame) | ((with_reducible refine wcg_build_arr pageT ?_ ?_); exact rfl; go_frame) | ((with_reducible refine wcg_neq_arr pageT (s := fe.page) (t := Arr.zero) ?_ ?_ ?_ ?_); exact rfl; exact rfl; exact rfl; rw [p3']; go_frame))
            go_ret
            exact .inl ⟨E.out, rfl, TWR.out.trans T6.out⟩
          · have E : Hid (S.record = some (S.images f)) := by show _ = _; rw [HREC.out, if_pos ⟨rfl, P2.out, p3⟩]
            have p3' : decide (fe.page = Arr.zero) = true := by simp [p3]
            have hil : (S.images f).length = k := by unfold LogS.images; rw [List.length_map, List.length_range, HM.out]
            have hga : S.imgsTo f k = S.images f := by
              have := LogS.imgsTo_all S f
              rw [HM.out] at this
              exact this
            have tw6 := TWR.out.trans T6.out
            have h6 := H.out.old tw6
            have him6 := I6.out
            rw [hga] at him6
            obtain ⟨ia, icap, hv10, im6, hbase⟩ := him6.at_
            rw [List.length_map, hil] at hv10
            subst hv10
            have TK : Hid (Calls Tryz.prog 64 #[.pointer (some ⟨g, 0, none⟩), .slice ia k icap] w6 fun e w' => e = .returned (.tuple #[]) ∧ RLogAt w' g r a b c O B (S.took (S.images f)) ∧ Tch [g, O, B] w w') := by
              have hOB : O < w.heap.size ∧ B < w.heap.size := by
                obtain ⟨ls, hls, _⟩ := H.out.hO
                exact ⟨lt_of_heap hls, lt_of_heap H.out.hB⟩
              have := rtook_any (icap := icap) h6 im6 (fun q hq => by have := hbase q hq; have := HW3.out; omega) (by omega) (by omega) OKK.out.records (fun q hq => by
                rw [← hga] at hq
                obtain ⟨i, hi, rfl⟩ := List.mem_map.1 hq
                exact HLT.out _ (List.mem_map.2 ⟨i, hi, rfl⟩))
              rw [hil] at this
              exact this.mono (by rintro e w' ⟨q1, q2, q3⟩; exact ⟨q1, q2, (tw6.mono (by simp)).trans q3⟩)
            clear p3 hil hga tw6 h6 im6 him6 hbase
            go_wp2_with (first | ((with_reducible refine wcg_load_framepage pageT.agg BG.out ?_ ?_ ?_); exact rfl; exact rfl; go_frame) | ((with_reducible refine wcg_build_arr pageT ?_ ?_); exact rfl; go_frame) | ((with_reducible refine wcg_neq_arr pageT (s := fe.page) (t := Arr.zero) ?_ ?_ ?_ ?_); exact rfl; exact rfl; exact rfl; rw [p3']; go_frame) | (go_at_call 64; refine TK.out.mono ?_; rintro e w9 ⟨rfl, q1, q2⟩; have Z1 := Lib.hid q1; have Z2 := Lib.hid q2; clear q1 q2))
            go_ret
            exact .inr ⟨_, E.out, rfl, Z1.out, Z2.out⟩
end Go.Proofs.YthbaipljlbddcaaGreat
/-
  The document's log: all home: ciboriumref08's Checkpoint.
-/
namespace Go.Cib
open Go Go.RowKit
namespace LogS
def homesTo (S : LogS) (p : Nat) : List DAct := ((List.range p).filterMap fun (i : Nat) => (S.over (i : Int)).map fun x => (i, x)).map fun q => S.homeA q.1 q.2
theorem homesTo_zero (S : LogS) : S.homesTo 0 = [] := rfl
theorem homesTo_none (S : LogS) (p : Nat) (h : S.over (p : Int) = none) : S.homesTo (p + 1) = S.homesTo p := by simp [homesTo, List.range_succ, h]
theorem homesTo_some (S : LogS) (p : Nat) (x : Page) (h : S.over (p : Int) = some x) : S.homesTo (p + 1) = S.homesTo p ++ [S.homeA p x] := by simp [homesTo, List.range_succ, h]
theorem homeAs_eq (S : LogS) : S.homeAs = S.homesTo S.pages ++ [.flush] := rfl
theorem homesTo_fail (S : LogS) (D : DiskS) (p : Nat) (h : (D.acts (S.homesTo p)).1 ≠ 0) : ∀ n, p ≤ n → D.acts (S.homesTo n) = D.acts (S.homesTo p) := by
  intro n hn
  induction n with
  | zero => have : p = 0 := by omega
            rw [this]
  | succ n ih =>
    rcases Nat.lt_or_ge n p with h1 | h1
    · have : p = n + 1 := by omega
      rw [this]
    · cases ho : S.over (n : Int) with
      | none => rw [homesTo_none S n ho, ih h1]
      | some x => rw [homesTo_some S n x ho, DiskS.acts_append, if_neg (by rw [ih h1]; exact h), ih h1]
theorem homeAs_acts (S : LogS) : S.disk.acts S.homeAs = if (S.disk.acts (S.homesTo S.pages)).1 = 0 then (S.disk.acts (S.homesTo S.pages)).2.flush else S.disk.acts (S.homesTo S.pages) := by
  rw [homeAs_eq, DiskS.acts_append, DiskS.acts_one]
  rfl
theorem headAs_acts (S : LogS) (D : DiskS) : D.acts S.headAs = if (D.write ((S.gen % 2 : Nat) : Int) S.headF.sector).1 = 0 then (D.write ((S.gen % 2 : Nat) : Int) S.headF.sector).2.flush else D.write ((S.gen % 2 : Nat) : Int) S.headF.sector := by
  unfold headAs
  rw [DiskS.acts_cons, DiskS.acts_one]
  rfl
/-- The pages from one on. -/
def ovFrom (S : LogS) (p : Nat) : Int → Option Page := fun i => if i < (p : Int) then none else S.over i
end LogS
end Go.Cib
namespace Go.Proofs.YthbaipljlbddcaaGreat
open Go.RowKit Go.Cib
theorem RLogAt.disk {w w' : World} {g r a b c O B : Nat} {S : LogS} {D : DiskS} (h : RLogAt w g r a b c O B S) (hD : RefAt w' r a b c D) (ht : Tch [r, a, b, c] w w') : RLogAt w' g r a b c O B { S with disk := D } := by
  have hn := h.ng
  have hO := h.nO
  have hB := h.nB
  simp only [List.mem_cons, List.not_mem_nil, or_false, not_or] at hn hO hB
  refine ⟨ht.heap h.hg (by simp; exact ⟨hn.1, hn.2.1, hn.2.2.1, hn.2.2.2.1⟩), hD, ?_, ht.heap h.hB (by simp; exact hB), h.ng, h.nO, h.nB⟩
  obtain ⟨ls, h1, h2⟩ := h.hO
  exact ⟨ls, ht.heap h1 (by simp; exact ⟨hO.1, hO.2.1, hO.2.2.1, hO.2.2.2.1⟩), h2⟩
theorem hasP_clear (S : LogS) (n : Nat) (_h : n < S.pages) : (hasP { S with over := S.ovFrom n }).setIfInBounds n (.bool false) = hasP { S with over := S.ovFrom (n + 1) } := by
  apply Array.ext_getElem?
  intro i
  rw [Array.getElem?_setIfInBounds]
  by_cases hi : i < S.pages
  · rw [hasP_get { S with over := S.ovFrom (n + 1) } i hi]
    by_cases e : n = i
    · subst e
      rw [if_pos rfl, if_pos (by rw [size_hasP]; exact hi)]
      show some (Value.bool false) = some (Value.bool (if (n : Int) < ((n + 1 : Nat) : Int) then none else S.over (n : Int)).isSome)
      rw [if_pos (by omega)]
      rfl
    · rw [if_neg e, hasP_get { S with over := S.ovFrom n } i hi]
      show some (Value.bool (if (i : Int) < ((n : Nat) : Int) then none else S.over (i : Int)).isSome) = some (Value.bool (if (i : Int) < ((n + 1 : Nat) : Int) then none else S.over (i : Int)).isSome)
      by_cases h2 : i < n
      · rw [if_pos (by omega), if_pos (by omega)]
      · rw [if_neg (by omega), if_neg (by omega)]
  · have e1 : (hasP { S with over := S.ovFrom n })[i]? = none := Array.getElem?_eq_none (by rw [size_hasP]; show S.pages ≤ i; omega)
    have e2 : (hasP { S with over := S.ovFrom (n + 1) })[i]? = none := Array.getElem?_eq_none (by rw [size_hasP]; show S.pages ≤ i; omega)
    rw [e1, e2]
    split
    · rename_i he
      subst he
      rw [if_neg (by rw [size_hasP]; show ¬ n < S.pages; omega)]
    · rfl
def KRai (g r : Nat) (S : LogS) (gm : Nat) : Nat → Value → World → Prop
  | 0, v, _ => v = .pointer (some ⟨g, 0, none⟩)
  | 1, v, _ => v = .pointer (some ⟨g, 0, none⟩)
  | 2, v, _ => v = .pointer (some ⟨g, 0, none⟩)
  | 3, v, _ => v = .pointer (some ⟨r, 0, none⟩)
  | 4, v, _ => v = .pointer (some ⟨g, 0, none⟩)
  | 5, v, _ => v = .pointer (some ⟨g, 0, none⟩)
  | 6, v, _ => v = .pointer (some ⟨g, 3, none⟩)
  | 7, v, _ => v = .int .u64 S.gen
  | 8, v, _ => v = .int .u64 gm
  | 9, v, _ => v = .int .i64 gm
  | 10, v, _ => v = .pointer (some ⟨g, 0, none⟩)
  | 11, v, _ => v = .pointer (some ⟨g, 0, none⟩)
  | 12, v, _ => v = .pointer (some ⟨g, 3, none⟩)
  | 13, v, _ => v = .int .u64 S.gen
  | 14, v, _ => v = .pointer (some ⟨g, 0, none⟩)
  | 15, v, _ => v = .pointer (some ⟨g, 0, none⟩)
  | 16, v, _ => v = .pointer (some ⟨g, 1, none⟩)
  | 17, v, _ => v = .int .i64 S.log
  | 18, v, _ => v = .pointer (some ⟨g, 0, none⟩)
  | 19, v, _ => v = .pointer (some ⟨g, 0, none⟩)
  | 20, v, _ => v = .pointer (some ⟨g, 2, none⟩)
  | 21, v, _ => v = .int .i64 S.pages
  | 22, v, w => ∃ k, v = .slice (some ⟨k, 0, none⟩) 2 2 ∧ IntsAt w (some ⟨k, 0, none⟩) [(S.log : Int), (S.pages : Int)]
  | 23, v, _ => v = .agg (secA (numsPage [S.log, S.pages]))
  | _, v, _ => v = .agg (frameA S.headF)
theorem KRai.later {g r : Nat} {S : LogS} {gm : Nat} {j : Nat} {v : Value} {w w' : World} (h : KRai g r S gm j v w) (ht : Tch [] w w') : KRai g r S gm j v w' := by
  unfold KRai at h ⊢
  split at h <;> first | exact h | (obtain ⟨k, e, hk⟩ := h; exact ⟨k, e, ints_old hk ht⟩)

set_option maxRecDepth 20000 in
set_option maxHeartbeats 2000000 in
theorem rcheckpoint_any {w : World} {g r a b c O B : Nat} {S : LogS} (h : RLogAt w g r a b c O B S) (ok : S.Ok) :
    Calls Tryz.prog 30 #[.pointer (some ⟨g, 0, none⟩)] w fun e w' =>
      e = .returned (.int .i64 S.checkpoint.1) ∧ RLogAt w' g r a b c O B S.checkpoint.2 ∧ Tch [g, r, a, b, c, B] w w' := by
  have c8 := h.cell 8 rfl
  have c4 := h.cell 4 rfl
  have H1 := Lib.hid h
  have OKK := Lib.hid ok
  have hl4 := ok.log4
  have hp2 := ok.pages2
  have hgen := ok.gen
  clear h ok
  cases hd : S.dead with
  | true =>
    rw [hd] at c8
    have e : S.checkpoint = (6, S) := by unfold LogS.checkpoint; rw [if_pos hd]
    have E := Lib.hid e
    clear e hd
    go_enter Tryz.func30, Tryz.ntmps30
    go_wp2_with fail
    go_ret
    rw [E.out]
    exact ⟨rfl, H1.out, Tch.refl _ _⟩
  | false =>
    rw [hd] at c8
    by_cases hu : S.used = 0
    · have hu' : ((S.used : Int) == 0) = true := by simp [hu]
      have e : S.checkpoint = (0, S) := by unfold LogS.checkpoint; rw [if_neg (by simp [hd]), if_pos hu]
      have E := Lib.hid e
      clear e hd hu
      go_enter Tryz.func30, Tryz.ntmps30
      go_wp2_with fail
      go_ret
      rw [E.out]
      exact ⟨rfl, H1.out, Tch.refl _ _⟩
    · have hu' : ((S.used : Int) == 0) = false := by simp [hu]
      have EC : Hid (S.checkpoint = if (S.disk.acts S.homeAs).1 ≠ 0 then ((S.disk.acts S.homeAs).1, S.told (S.disk.acts S.homeAs))
          else if ({ S with disk := (S.disk.acts S.homeAs).2 } : LogS).raise.1 ≠ 0 then (({ S with disk := (S.disk.acts S.homeAs).2 } : LogS).raise.1, ({ S with disk := (S.disk.acts S.homeAs).2 } : LogS).raise.2.told (({ S with disk := (S.disk.acts S.homeAs).2 } : LogS).raise.1, ({ S with disk := (S.disk.acts S.homeAs).2 } : LogS).raise.2.disk))
          else (0, ({ S with disk := (S.disk.acts S.homeAs).2 } : LogS).raise.2.cleared)) := by
        show S.checkpoint = _
        unfold LogS.checkpoint
        rw [if_neg (by simp [hd]), if_neg hu]
      clear hu
      go_enter Tryz.func30, Tryz.ntmps30
      go_upto_block 0 with fail
      obtain ⟨R, hR⟩ : ∃ R, S.disk.acts (S.homesTo S.pages) = R := ⟨_, rfl⟩
      have HR := Lib.hid hR
      clear hR c8 c4
      go_cut [3, 4] from 15 to 59 (fun ve _ wx => ve = .int .i64 R.1 ∧ RLogAt wx g r a b c O B { S with disk := R.2 } ∧ Tch [r, a, b, c] w wx)
      case first =>
        go_wp2_with fail
        go_loopg [3, 4] S.pages (fun q ve i wr => ∃ p, OnAt S.pages i q p ∧ ve = .int .i64 (S.disk.acts (S.homesTo p)).1 ∧ RLogAt wr g r a b c O B { S with disk := (S.disk.acts (S.homesTo p)).2 } ∧ Tch [r, a, b, c] w wr)
        case atStart => exact ⟨0, ⟨Nat.zero_le _, rfl, rfl⟩, rfl, H1.out, Tch.refl _ _⟩
        case round =>
          obtain ⟨p, ⟨hp, rfl, rfl⟩, rfl, hlr, ht⟩ := hrel
          obtain ⟨A, hA⟩ : ∃ A, S.disk.acts (S.homesTo p) = A := ⟨_, rfl⟩
          rw [hA] at hlr
          rw [hA]
          have LR := Lib.hid hlr
          have TR := Lib.hid ht
          have c2 := hlr.cell 2 rfl
          simp only at c2
          by_cases he : A.1 = 0
          rotate_left
          · have he' : (A.1 == 0) = false := by simp [he]
            have hf : R = A := by rw [← HR.out, LogS.homesTo_fail S S.disk p (by rw [hA]; exact he) S.pages hp, hA]
            have HF := Lib.hid hf
            clear hf hlr ht hA
            go_wp2_with fail
            all_goals (go_meet; rw [HF.out]; exact ⟨rfl, LR.out, TR.out⟩)
          by_cases hpn : p < S.pages
          rotate_left
          · have hpp : p = S.pages := by omega
            have hf : R = A := by rw [← HR.out, ← hA, hpp]
            have HF := Lib.hid hf
            clear hf hlr ht hA hpp
            go_wp2_with fail
            all_goals (go_meet; rw [HF.out]; exact ⟨rfl, LR.out, TR.out⟩)
          have he' : (A.1 == 0) = true := by simp [he]
          have c0 := hlr.cell 0 rfl
          have c1 := hlr.cell 1 rfl
          have c3 := hlr.cell 3 rfl
          have c6 := hlr.cell 6 rfl
          have c7 := hlr.cell 7 rfl
          have cB : wr.cell? ⟨B, p, none⟩ = some (.bool (S.over (p : Int)).isSome) := by rw [cell_of_row wr B p _ _ _ hlr.hB]; exact hasP_get { S with disk := A.2 } p hpn
          simp only at c0 c1 c3 c6 c7
          have HA := Lib.hid hA
          clear hlr ht hA
          cases ho : S.over (p : Int) with
          | none =>
            rw [ho] at cB
            have hs := LogS.homesTo_none S p ho
            have HS := Lib.hid hs
            clear hs ho
            go_wp2_with fail
            go_roundg (S.pages - (p + 1))
            case measure => omega
            case rel => exact ⟨p + 1, ⟨by omega, by go_num, rfl⟩, by rw [HS.out, HA.out, he], by rw [HS.out, HA.out]; exact LR.out, TR.out⟩
          | some x =>
            rw [ho] at cB
            have hs : S.disk.acts (S.homesTo (p + 1)) = A.2.write ((2 : Int) + S.log + p) (S.homeF p x).sector := by
              rw [LogS.homesTo_some S p x ho, DiskS.acts_append, HA.out, if_pos he, DiskS.acts_one]
              show A.2.write ((2 + S.log + p : Nat) : Int) _ = _
              rw [show ((2 + S.log + p : Nat) : Int) = (2 : Int) + S.log + p by omega]
            obtain ⟨ls, hls, hll, hlx⟩ := LR.out.hO
            have hx := hlx p x hpn ho
            have CO : Hid (∀ w', (∃ n, w' = World.drewN wr n) → SecsIn w' O ls) := fun w' ⟨n, hn⟩ => by subst hn; exact (secsIn_whole hls).touch (tch_drewN wr n) (by simp)
            have HX := Lib.hid hx
            have HS := Lib.hid hs
            have FILL : Hid (fillF FrameV.zero [(0, .int .u8 5), (1, .int .u64 S.gen), (3, .int .u32 p), (4, .agg (secA x))] = some (frameA (S.homeF p x))) := by
              show fillF FrameV.zero [(0, .int .u8 (5 : UInt8).toNat), (1, .int .u64 S.gen), (3, .int .u32 p), (4, .agg (secA x))] = _
              rw [fillF_kind, fillF_gen, fillF_idx, fillF_page, fillF_nil]
              rfl
            have HOK : Hid ((S.homeF p x).Ok) := ⟨hgen, by show (0 : Nat) < _; omega, by show p < _; omega⟩
            have W3 := convU32 p (by omega)
            clear hs ho hls hll hlx hx
            go_upto_region 10 with fail
            (refine wp_region_walk (C := fun w' => ∃ n, w' = World.drewN wr n) 25 (by kernel_rfl) (by kernel_rfl) ⟨1, rfl⟩ ?_; simp only [List.take_succ_cons, List.take_zero, List.drop_succ_cons, List.drop_zero]; (repeat (first | ((with_reducible refine wq_load_in pageT CO.out HX.out ?_ ?_ ?_); exact rfl; exact rfl; go_frame) | ((with_reducible refine wq_build_rf FILL.out ?_ ?_ ?_); exact rfl; exact rfl; go_frame) | go_big_quiet_step (fail))); refine wpQuiet_nil ?_; intro _ hw'; obtain ⟨nq, hw''⟩ := hw'; subst hw'')
            have L2 := Lib.hid (LR.out.old (tch_drewN wr nq))
            have CW := Lib.hid (rwrites_any L2.out.hD ((2 : Int) + S.log + p) (S.homeF p x) HOK.out)
            go_wp2_with (go_at_call 61; refine CW.out.mono ?_; rintro e w3 ⟨rfl, q1, q2⟩; have L3 := Lib.hid (L2.out.disk q1 q2); have T3 := Lib.hid (((TR.out.trans ((tch_drewN wr nq).mono (by simp))).trans q2)); clear q1 q2)
            go_roundg (S.pages - (p + 1))
            case measure => omega
            case rel => exact ⟨p + 1, ⟨by omega, by go_num, rfl⟩, by rw [HS.out], by rw [HS.out]; exact L3.out, T3.out⟩
      case rest =>
      obtain ⟨rfl, hlr, ht⟩ := hcut
      have LR := Lib.hid hlr
      have TR := Lib.hid ht
      have c0 := hlr.cell 0 rfl
      have HH : Hid (S.disk.acts S.homeAs = if R.1 = 0 then R.2.flush else R) := by
        show _ = _
        rw [LogS.homeAs_acts, HR.out]
      simp only at c0
      clear hlr ht H1 HR
      by_cases he : R.1 = 0
      rotate_left
      · have he' : (R.1 == 0) = false := by simp [he]
        have he2 : (R.1 != 0) = true := by simp [he]
        rw [if_neg he] at HH
        have E := EC.out
        rw [HH.out, if_pos he] at E
        have EE := Lib.hid E
        have CT := Lib.hid (rtold_any LR.out R.1)
        clear E EC he
        go_wp2_with (go_at_call 63; refine CT.out.mono ?_; rintro e w3 ⟨rfl, q1, q2⟩; have L3 := Lib.hid q1; have T3 := Lib.hid ((TR.out.mono (S' := [g, r, a, b, c, B]) (by simp)).trans (q2.mono (by simp))); clear q1 q2)
        go_ret
        rw [EE.out]
        exact ⟨rfl, L3.out, T3.out⟩
      rw [if_pos he] at HH
      have he' : (R.1 == 0) = true := by simp [he]
      obtain ⟨F, hF⟩ : ∃ F, R.2.flush = F := ⟨_, rfl⟩
      rw [hF] at HH
      have CF : Hid (Calls Tryz.prog 62 #[.pointer (some ⟨r, 0, none⟩)] wc fun e w' => e = .returned (.int .i64 F.1) ∧ RLogAt w' g r a b c O B { S with disk := F.2 } ∧ Tch [r, a, b, c] w w') := by
        refine (refFlush_any LR.out.hD).mono ?_
        rintro e w' ⟨q0, q1, q2⟩
        rw [← hF]
        exact ⟨q0, LR.out.disk q1 q2, TR.out.trans q2⟩
      clear hF
      by_cases hf : F.1 = 0
      rotate_left
      · have hf' : (F.1 == 0) = false := by simp [hf]
        have hf2 : (F.1 != 0) = true := by simp [hf]
        have E := EC.out
        rw [HH.out, if_pos hf] at E
        have EE := Lib.hid E
        clear E EC hf he
        go_wp2_with (first | (go_at_call 62; refine CF.out.mono ?_; rintro e w2 ⟨rfl, q1, q2⟩; have L2 := Lib.hid q1; have T2 := Lib.hid q2; clear q1 q2) | (go_at_call 63; refine (rtold_any L2.out F.1).mono ?_; rintro e w3 ⟨rfl, q1, q2⟩; have L3 := Lib.hid q1; have T3 := Lib.hid ((T2.out.mono (S' := [g, r, a, b, c, B]) (by simp)).trans (q2.mono (by simp))); clear q1 q2))
        go_ret
        rw [EE.out]
        exact ⟨rfl, L3.out, T3.out⟩
      have hf' : (F.1 == 0) = true := by simp [hf]
      have E := EC.out
      rw [HH.out, if_neg (by simpa using hf)] at E
      have EC := Lib.hid E
      clear E HH he
      obtain ⟨N, hN⟩ : ∃ N, ({ S with disk := F.2 } : LogS).next = N := ⟨_, rfl⟩
      obtain ⟨X, hX⟩ : ∃ X, F.2.acts N.headAs = X := ⟨_, rfl⟩
      have n1 : N.log = S.log := by rw [← hN]; rfl
      have n2 : N.pages = S.pages := by rw [← hN]; rfl
      have n3 : N.gen = (S.gen + 1) % 18446744073709551616 := by rw [← hN]; rfl
      have n4 : N.over = S.over := by rw [← hN]; rfl
      have n5 : N.disk = F.2 := by rw [← hN]; rfl
      have n6 : N.used = S.used ∧ N.records = S.records ∧ N.dead = S.dead := by rw [← hN]; exact ⟨rfl, rfl, rfl⟩
      have hgw : IntKind.u64.wrap ((S.gen : Int) + 1) = N.gen := by rw [n3]; simp [IntKind.wrap, IntKind.bits, IntKind.signed]
      have hNg : N.gen < 18446744073709551616 := by rw [n3]; exact Nat.mod_lt _ (by decide)
      have E2 : Hid (S.checkpoint = if X.1 ≠ 0 then (X.1, ({ N with disk := X.2 } : LogS).told (X.1, X.2)) else (0, ({ N with disk := X.2 } : LogS).cleared)) := by
        show _ = _
        rw [EC.out, ← hX, ← hN]
        rfl
      obtain ⟨gm, hgm⟩ : ∃ gm, N.gen % 2 = gm := ⟨_, rfl⟩
      have hgm2 : gm < 2 := by omega
      have HX : Hid (X = if (F.2.write (gm : Int) N.headF.sector).1 = 0 then (F.2.write (gm : Int) N.headF.sector).2.flush else F.2.write (gm : Int) N.headF.sector) := by
        show _ = _
        rw [← hX, LogS.headAs_acts, hgm]
      have egm : (N.gen : Int).tmod 2 = gm := by rw [Int.tmod_eq_emod_of_nonneg (by omega)]; omega
      have hN4 : N.log ≤ 4000 := by omega
      have hNp : N.pages ≤ 16384 := by omega
      have NS : Hid (N.log = S.log ∧ N.pages = S.pages ∧ N.over = S.over ∧ N.disk = F.2 ∧ N.used = S.used ∧ N.records = S.records ∧ N.dead = S.dead) := ⟨n1, n2, n4, n5, n6⟩
      clear EC hN hX n1 n2 n3 n4 n5 n6 hf hgm
      go_upto_region 14 with (go_at_call 62; refine CF.out.mono ?_; rintro e w2 ⟨rfl, q1, q2⟩; have L2 := Lib.hid q1; have c3 := q1.cell 3 rfl; have f3 := q1.froz 3; have T2 := Lib.hid q2; clear q1 q2)
      go_upto_region 15 with fail
      obtain ⟨w3, hw3⟩ : ∃ w3, w2.setCell ⟨g, 3, none⟩ (.int .u64 N.gen) = w3 := ⟨_, rfl⟩
      have t3 : Tch [g] w2 w3 := by rw [← hw3]; exact (Tch.refl _ _).setCell (by simp) _
      have l3 : RLogAt w3 g r a b c O B N := by
        obtain ⟨n1, n2, n3, n4, n5, n6, n7⟩ := NS.out
        refine L2.out.head t3 n4 n2 n3 ?_
        rw [n1, n2, n5, n6, n7, ← hw3, heap_setCell_cells L2.out.hg]
        rfl
      have c0 := l3.cell 0 rfl
      have c1 := l3.cell 1 rfl
      have c2 := l3.cell 2 rfl
      have c3 := l3.cell 3 rfl
      have L3 := Lib.hid l3
      have T3 := Lib.hid ((T2.out.mono (S' := [g, r, a, b, c, B]) (by simp)).trans (t3.mono (by simp)))
      have FILL : Hid (fillF FrameV.zero [(0, .int .u8 1), (1, .int .u64 N.gen), (4, .agg (secA (numsPage [N.log, N.pages])))] = some (frameA N.headF)) := by
        show fillF FrameV.zero [(0, .int .u8 (1 : UInt8).toNat), (1, .int .u64 N.gen), (4, .agg (secA (numsPage [N.log, N.pages])))] = _
        rw [fillF_kind, fillF_gen, fillF_page, fillF_nil]
        rfl
      have HOK : Hid (N.headF.Ok) := ⟨hNg, by show (0 : Nat) < _; omega, by show (0 : Nat) < _; omega⟩
      rw [hw3]
      clear hw3 t3 l3 f3 L2 T2 CF
      have egw : IntKind.i64.wrap (gm : Int) = gm := by simp [IntKind.wrap, IntKind.bits, IntKind.signed]; omega
      refine wp_region_valt 25 (fun w' => Tch [] w3 w') (KRai g r N gm) (by kernel_rfl) (by kernel_rfl) (by kernel_rfl) ((Tch.refl _ _).drew) (fun w4 w5 _ _ ht i v hk => hk.later ht) ?_ ?_
      · intro i o hi ho fu w' hC hold hdep
        have c0' := cell_old hC c0
        have c1' := cell_old hC c1
        have c2' := cell_old hC c2
        have c3' := cell_old hC c3
        have hi7 : i = 0 ∨ i = 1 ∨ i = 2 ∨ i = 3 ∨ i = 4 ∨ i = 5 ∨ i = 6 ∨ i = 7 ∨ i = 8 ∨ i = 9 ∨ i = 10 ∨ i = 11 ∨ i = 12 ∨ i = 13 ∨ i = 14 ∨ i = 15 ∨ i = 16 ∨ i = 17 ∨ i = 18 ∨ i = 19 ∨ i = 20 ∨ i = 21 ∨ i = 22 ∨ i = 23 ∨ i = 24 := by omega
        rcases hi7 with rfl | rfl | rfl | rfl | rfl | rfl | rfl | rfl | rfl | rfl | rfl | rfl | rfl | rfl | rfl | rfl | rfl | rfl | rfl | rfl | rfl | rfl | rfl | rfl | rfl
        all_goals (simp only [List.getElem?_cons_zero, List.getElem?_cons_succ, Option.some.injEq] at ho; subst ho)
        · refine step_plain rfl ?_
          have x0 : fu.tmps[0]?.getD undef = .pointer (some ⟨g, 0, none⟩) := ev_tmp (hold 0 (by show _ < 134; omega) (by kernel_rfl))
          go_simp
          exact ⟨rfl, Tch.refl _ _⟩
        · refine step_plain rfl ?_
          have x76 : fu.tmps[76]?.getD undef = .pointer (some ⟨g, 0, none⟩) := ev_tmp (hdep 0 76 (by show _ < 134; omega) (by kernel_rfl) (by kernel_rfl))
          go_simp
          exact ⟨rfl, Tch.refl _ _⟩
        · refine step_plain rfl ?_
          have x77 : fu.tmps[77]?.getD undef = .pointer (some ⟨g, 0, none⟩) := ev_tmp (hdep 1 77 (by show _ < 134; omega) (by kernel_rfl) (by kernel_rfl))
          go_simp
          exact ⟨rfl, Tch.refl _ _⟩
        · refine step_plain rfl ?_
          have x78 : fu.tmps[78]?.getD undef = .pointer (some ⟨g, 0, none⟩) := ev_tmp (hdep 2 78 (by show _ < 134; omega) (by kernel_rfl) (by kernel_rfl))
          go_simp
          exact ⟨rfl, Tch.refl _ _⟩
        · refine step_plain rfl ?_
          have x0 : fu.tmps[0]?.getD undef = .pointer (some ⟨g, 0, none⟩) := ev_tmp (hold 0 (by show _ < 134; omega) (by kernel_rfl))
          go_simp
          exact ⟨rfl, Tch.refl _ _⟩
        · refine step_plain rfl ?_
          have x80 : fu.tmps[80]?.getD undef = .pointer (some ⟨g, 0, none⟩) := ev_tmp (hdep 4 80 (by show _ < 134; omega) (by kernel_rfl) (by kernel_rfl))
          go_simp
          exact ⟨rfl, Tch.refl _ _⟩
        · refine step_plain rfl ?_
          have x81 : fu.tmps[81]?.getD undef = .pointer (some ⟨g, 0, none⟩) := ev_tmp (hdep 5 81 (by show _ < 134; omega) (by kernel_rfl) (by kernel_rfl))
          go_simp
          exact ⟨rfl, Tch.refl _ _⟩
        · refine step_plain rfl ?_
          have x82 : fu.tmps[82]?.getD undef = .pointer (some ⟨g, 3, none⟩) := ev_tmp (hdep 6 82 (by show _ < 134; omega) (by kernel_rfl) (by kernel_rfl))
          go_simp
          exact ⟨rfl, Tch.refl _ _⟩
        · refine step_plain rfl ?_
          have x83 : fu.tmps[83]?.getD undef = .int .u64 N.gen := ev_tmp (hdep 7 83 (by show _ < 134; omega) (by kernel_rfl) (by kernel_rfl))
          go_simp
          exact ⟨rfl, Tch.refl _ _⟩
        · refine step_plain rfl ?_
          have x84 : fu.tmps[84]?.getD undef = .int .u64 gm := ev_tmp (hdep 8 84 (by show _ < 134; omega) (by kernel_rfl) (by kernel_rfl))
          go_simp
          exact ⟨rfl, Tch.refl _ _⟩
        · refine step_plain rfl ?_
          have x0 : fu.tmps[0]?.getD undef = .pointer (some ⟨g, 0, none⟩) := ev_tmp (hold 0 (by show _ < 134; omega) (by kernel_rfl))
          go_simp
          exact ⟨rfl, Tch.refl _ _⟩
        · refine step_plain rfl ?_
          have x86 : fu.tmps[86]?.getD undef = .pointer (some ⟨g, 0, none⟩) := ev_tmp (hdep 10 86 (by show _ < 134; omega) (by kernel_rfl) (by kernel_rfl))
          go_simp
          exact ⟨rfl, Tch.refl _ _⟩
        · refine step_plain rfl ?_
          have x87 : fu.tmps[87]?.getD undef = .pointer (some ⟨g, 0, none⟩) := ev_tmp (hdep 11 87 (by show _ < 134; omega) (by kernel_rfl) (by kernel_rfl))
          go_simp
          exact ⟨rfl, Tch.refl _ _⟩
        · refine step_plain rfl ?_
          have x88 : fu.tmps[88]?.getD undef = .pointer (some ⟨g, 3, none⟩) := ev_tmp (hdep 12 88 (by show _ < 134; omega) (by kernel_rfl) (by kernel_rfl))
          go_simp
          exact ⟨rfl, Tch.refl _ _⟩
        · refine step_plain rfl ?_
          have x0 : fu.tmps[0]?.getD undef = .pointer (some ⟨g, 0, none⟩) := ev_tmp (hold 0 (by show _ < 134; omega) (by kernel_rfl))
          go_simp
          exact ⟨rfl, Tch.refl _ _⟩
        · refine step_plain rfl ?_
          have x90 : fu.tmps[90]?.getD undef = .pointer (some ⟨g, 0, none⟩) := ev_tmp (hdep 14 90 (by show _ < 134; omega) (by kernel_rfl) (by kernel_rfl))
          go_simp
          exact ⟨rfl, Tch.refl _ _⟩
        · refine step_plain rfl ?_
          have x91 : fu.tmps[91]?.getD undef = .pointer (some ⟨g, 0, none⟩) := ev_tmp (hdep 15 91 (by show _ < 134; omega) (by kernel_rfl) (by kernel_rfl))
          go_simp
          exact ⟨rfl, Tch.refl _ _⟩
        · refine step_plain rfl ?_
          have x92 : fu.tmps[92]?.getD undef = .pointer (some ⟨g, 1, none⟩) := ev_tmp (hdep 16 92 (by show _ < 134; omega) (by kernel_rfl) (by kernel_rfl))
          go_simp
          exact ⟨rfl, Tch.refl _ _⟩
        · refine step_plain rfl ?_
          have x0 : fu.tmps[0]?.getD undef = .pointer (some ⟨g, 0, none⟩) := ev_tmp (hold 0 (by show _ < 134; omega) (by kernel_rfl))
          go_simp
          exact ⟨rfl, Tch.refl _ _⟩
        · refine step_plain rfl ?_
          have x94 : fu.tmps[94]?.getD undef = .pointer (some ⟨g, 0, none⟩) := ev_tmp (hdep 18 94 (by show _ < 134; omega) (by kernel_rfl) (by kernel_rfl))
          go_simp
          exact ⟨rfl, Tch.refl _ _⟩
        · refine step_plain rfl ?_
          have x95 : fu.tmps[95]?.getD undef = .pointer (some ⟨g, 0, none⟩) := ev_tmp (hdep 19 95 (by show _ < 134; omega) (by kernel_rfl) (by kernel_rfl))
          go_simp
          exact ⟨rfl, Tch.refl _ _⟩
        · refine step_plain rfl ?_
          have x96 : fu.tmps[96]?.getD undef = .pointer (some ⟨g, 2, none⟩) := ev_tmp (hdep 20 96 (by show _ < 134; omega) (by kernel_rfl) (by kernel_rfl))
          go_simp
          exact ⟨rfl, Tch.refl _ _⟩
        · refine step_plain rfl ?_
          have x93 : fu.tmps[93]?.getD undef = .int .i64 N.log := ev_tmp (hdep 17 93 (by show _ < 134; omega) (by kernel_rfl) (by kernel_rfl))
          have x97 : fu.tmps[97]?.getD undef = .int .i64 N.pages := ev_tmp (hdep 21 97 (by show _ < 134; omega) (by kernel_rfl) (by kernel_rfl))
          go_simp
          exact ⟨⟨_, rfl, ints_two _ _ _⟩, hC.alloc _, (Tch.refl _ _).alloc _⟩
        · refine step_plain rfl ?_
          have x98 := hdep 22 98 (by show _ < 134; omega) (by kernel_rfl) (by kernel_rfl)
          obtain ⟨k, e19, h19⟩ := x98
          have x98 := ev_tmp e19
          have HN := Lib.hid (rnumbers_any (cap := 2) h19 (by simp))
          clear h19
          go_simp
          refine HN.out.mono ?_
          rintro e w5 ⟨rfl, q2⟩
          exact ⟨_, rfl, by rw [num32s_two _ _ (by omega) (by omega)]; rfl, hC.trans q2, q2⟩
        · refine step_plain rfl ?_
          have x89 : fu.tmps[89]?.getD undef = .int .u64 N.gen := ev_tmp (hdep 13 89 (by show _ < 134; omega) (by kernel_rfl) (by kernel_rfl))
          have x99 : fu.tmps[99]?.getD undef = .agg (secA (numsPage [N.log, N.pages])) := ev_tmp (hdep 23 99 (by show _ < 134; omega) (by kernel_rfl) (by kernel_rfl))
          exact stpR_ok (exec_build_rf FILL.out (by simp [Act.eval, x89, x99])) ⟨rfl, hC, Tch.refl _ _⟩
      · intro vs w4 hC hK
        have x3 : vs 3 = .pointer (some ⟨r, 0, none⟩) := hK 3 (by omega)
        have x9 : vs 9 = .int .i64 gm := hK 9 (by omega)
        have x24 : vs 24 = .agg (frameA N.headF) := hK 24 (by omega)
        have X3 := Lib.hid x3
        have X9 := Lib.hid x9
        have X24 := Lib.hid x24
        have L4 := Lib.hid (L3.out.old hC)
        have T4 := Lib.hid (T3.out.trans (hC.mono (by simp)))
        clear hK hC x3 x9 x24 c0 c1 c2 c3 L3 T3
        unfold fullOf
        rw [show (List.range 25).map vs = [vs 0, vs 1, vs 2, vs 3, vs 4, vs 5, vs 6, vs 7, vs 8, vs 9, vs 10, vs 11, vs 12, vs 13, vs 14, vs 15, vs 16, vs 17, vs 18, vs 19, vs 20, vs 21, vs 22, vs 23, vs 24] from rfl, X3.out, X9.out, X24.out]
        generalize vs 0 = v0
        generalize vs 1 = v1
        generalize vs 2 = v2
        generalize vs 4 = v4
        generalize vs 5 = v5
        generalize vs 6 = v6
        generalize vs 7 = v7
        generalize vs 8 = v8
        generalize vs 10 = v10
        generalize vs 11 = v11
        generalize vs 12 = v12
        generalize vs 13 = v13
        generalize vs 14 = v14
        generalize vs 15 = v15
        generalize vs 16 = v16
        generalize vs 17 = v17
        generalize vs 18 = v18
        generalize vs 19 = v19
        generalize vs 20 = v20
        generalize vs 21 = v21
        generalize vs 22 = v22
        generalize vs 23 = v23
        clear X3 X9 X24 vs
        simp only [List.take_succ_cons, List.take_zero, List.drop_succ_cons, List.drop_zero, putAll]
        go_frame
        obtain ⟨Y, hY⟩ : ∃ Y, F.2.write (gm : Int) N.headF.sector = Y := ⟨_, rfl⟩
        rw [hY] at HX
        have CW : Hid (Calls Tryz.prog 61 #[.pointer (some ⟨r, 0, none⟩), .int .i64 gm, .agg (frameA N.headF)] w4 fun e w' => e = .returned (.int .i64 Y.1) ∧ RLogAt w' g r a b c O B { N with disk := Y.2 } ∧ Tch [g, r, a, b, c, B] w w') := by
          refine (rwrites_any L4.out.hD (gm : Int) N.headF HOK.out).mono ?_
          rintro e w' ⟨q0, q1, q2⟩
          rw [NS.out.2.2.2.1, hY] at q0 q1
          exact ⟨q0, L4.out.disk q1 q2, T4.out.trans (q2.mono (by simp))⟩
        clear hY
        by_cases hy : Y.1 = 0
        rotate_left
        · have hy' : (Y.1 == 0) = false := by simp [hy]
          have hy2 : (Y.1 != 0) = true := by simp [hy]
          rw [if_neg hy] at HX
          have E := E2.out
          rw [HX.out, if_pos hy] at E
          have EE := Lib.hid E
          clear E E2 hy
          go_wp2_with (first | (go_at_call 61; refine CW.out.mono ?_; rintro e w5 ⟨rfl, q1, q2⟩; have L5 := Lib.hid q1; have T5 := Lib.hid q2; clear q1 q2) | (go_at_call 63; refine (rtold_any L5.out Y.1).mono ?_; rintro e w6 ⟨rfl, q1, q2⟩; have L6 := Lib.hid q1; have T6 := Lib.hid (T5.out.trans (q2.mono (by simp))); clear q1 q2))
          go_ret
          rw [EE.out]
          exact ⟨rfl, L6.out, T6.out⟩
        rw [if_pos hy] at HX
        have hy' : (Y.1 == 0) = true := by simp [hy]
        have CF2 : Hid (∀ w5, RLogAt w5 g r a b c O B { N with disk := Y.2 } → Calls Tryz.prog 62 #[.pointer (some ⟨r, 0, none⟩)] w5 fun e w' => e = .returned (.int .i64 X.1) ∧ RLogAt w' g r a b c O B { N with disk := X.2 } ∧ Tch [g, r, a, b, c, B] w5 w') := fun w5 h5 => by
          refine (refFlush_any h5.hD).mono ?_
          rintro e w' ⟨q0, q1, q2⟩
          rw [HX.out]
          exact ⟨q0, h5.disk q1 q2, q2.mono (by simp)⟩
        by_cases hx : X.1 = 0
        rotate_left
        · have hx' : (X.1 == 0) = false := by simp [hx]
          have hx2 : (X.1 != 0) = true := by simp [hx]
          have E := E2.out
          rw [if_pos hx] at E
          have EE := Lib.hid E
          clear E E2 hx hy
          go_wp2_with (first | (go_at_call 61; refine CW.out.mono ?_; rintro e w5 ⟨rfl, q1, q2⟩; have L5 := Lib.hid q1; have c0 := q1.cell 0 rfl; have T5 := Lib.hid q2; clear q1 q2) | (go_at_call 62; refine (CF2.out _ L5.out).mono ?_; rintro e w6 ⟨rfl, q1, q2⟩; have L6 := Lib.hid q1; have T6 := Lib.hid (T5.out.trans q2); clear q1 q2) | (go_at_call 63; refine (rtold_any L6.out X.1).mono ?_; rintro e w7 ⟨rfl, q1, q2⟩; have L7 := Lib.hid q1; have T7 := Lib.hid (T6.out.trans (q2.mono (by simp))); clear q1 q2))
          go_ret
          rw [EE.out]
          exact ⟨rfl, L7.out, T7.out⟩
        have hx' : (X.1 != 0) = false := by simp [hx]
        have E := E2.out
        rw [if_neg (by simpa using hx)] at E
        have EE := Lib.hid E
        clear E E2 hx hy
        go_upto_region 20 with (first | (go_at_call 61; refine CW.out.mono ?_; rintro e w5 ⟨rfl, q1, q2⟩; have L5 := Lib.hid q1; have c0 := q1.cell 0 rfl; have T5 := Lib.hid q2; clear q1 q2) | (go_at_call 62; refine (CF2.out _ L5.out).mono ?_; rintro e w6 ⟨rfl, q1, q2⟩; have L6 := Lib.hid q1; have f4 := q1.froz 4; have f5 := q1.froz 5; have c4 := q1.cell 4 rfl; have c5 := q1.cell 5 rfl; have T6 := Lib.hid (T5.out.trans q2); clear q1 q2))
        go_upto_region 22 with fail
        obtain ⟨M, hM⟩ : ∃ M : LogS, ({ N with disk := X.2, used := 0, records := 0 } : LogS) = M := ⟨_, rfl⟩
        have m2 : M.pages = N.pages := by rw [← hM]
        have mo : ∀ i x, M.over i = some x → 0 ≤ i ∧ i < M.pages := by
          intro i x hi
          obtain ⟨n1, n2, n3, _⟩ := NS.out
          rw [← hM] at hi ⊢
          simp only at hi ⊢
          rw [n3] at hi
          rw [n2]
          exact OKK.out.over i x hi
        have m0 : M.ovFrom 0 = M.over := by
          funext i
          unfold LogS.ovFrom
          by_cases hi : i < ((0 : Nat) : Int)
          · rw [if_pos hi]
            cases hm : M.over i with
            | none => rfl
            | some x => have := (mo i x hm).1; omega
          · rw [if_neg hi]
        have m1 : M.ovFrom M.pages = fun _ => none := by
          funext i
          unfold LogS.ovFrom
          by_cases hi : i < (M.pages : Int)
          · rw [if_pos hi]
          · rw [if_neg hi]
            cases hm : M.over i with
            | none => rfl
            | some x => have := (mo i x hm).2; omega
        have mc : ∀ k, M.pages = k → ({ N with disk := X.2 } : LogS).cleared = { M with over := M.ovFrom k } := by rintro k rfl; rw [m1, ← hM]; rfl
        obtain ⟨w7, hw7⟩ : ∃ w7, (w6.setCell ⟨g, 4, none⟩ (.int .i64 0)).setCell ⟨g, 5, none⟩ (.int .u64 0) = w7 := ⟨_, rfl⟩
        have t7 : Tch [g] w6 w7 := by rw [← hw7]; exact ((Tch.refl _ _).setCell (by simp) _).setCell (by simp) _
        have l7 : RLogAt w7 g r a b c O B { M with over := M.ovFrom 0 } := by
          rw [m0]
          show RLogAt w7 g r a b c O B M
          rw [← hM]
          refine L6.out.head t7 rfl rfl rfl ?_
          rw [← hw7, heap_setCell_cells (heap_setCell_cells L6.out.hg _ _) _ _]
          rfl
        have T7 := Lib.hid (T6.out.trans (t7.mono (by simp)))
        have L7 := Lib.hid l7
        have MC := Lib.hid mc
        have M2 := Lib.hid m2
        rw [hw7]
        obtain ⟨pn, hpn⟩ : ∃ pn, M.pages = pn := ⟨_, rfl⟩
        have HPN := Lib.hid hpn
        have hpn2 : pn ≤ 16384 := by omega
        clear hw7 t7 l7 L6 T6 f4 f5 c4 c5 mc m1 m0 mo m2 hM hpn
        go_wp2_with fail
        go_loopg [5] pn (fun q i wr => ∃ p, OnAt pn i q p ∧ RLogAt wr g r a b c O B { M with over := M.ovFrom p } ∧ Tch [B] w7 wr)
        case atStart => exact ⟨0, ⟨Nat.zero_le _, rfl, rfl⟩, L7.out, Tch.refl _ _⟩
        case round =>
          obtain ⟨p, ⟨hp, rfl, rfl⟩, hl, ht⟩ := hrel
          have LR := Lib.hid hl
          have TR := Lib.hid ht
          have c2 := hl.cell 2 rfl
          have c7 := hl.cell 7 rfl
          simp only at c2 c7
          rw [HPN.out] at c2 c7
          by_cases hpp : p < pn
          · have cB : wr.cell? ⟨B, p, none⟩ = some (.bool (M.ovFrom p (p : Int)).isSome) := by rw [cell_of_row wr B p _ _ _ hl.hB]; exact hasP_get { M with over := M.ovFrom p } p (by rw [← HPN.out] at hpp; exact hpp)
            have fB := frozen_of_row wr B p _ _ hl.hB
            have hst := hasP_clear M p (by rw [HPN.out]; exact hpp)
            have HST := Lib.hid hst
            clear hl ht hst
            go_wp2_with fail
            go_roundg (pn - (p + 1))
            case measure => omega
            case rel =>
              have t4 : Tch [B] wr (wr.setCell ⟨B, p, none⟩ (.bool false)) := (Tch.refl _ _).setCell (by simp) _
              have hn := LR.out.ng
              have hO := LR.out.nO
              have hB := LR.out.nB
              simp only [List.mem_cons, List.not_mem_nil, or_false, not_or] at hn hO hB
              obtain ⟨ls, g1, g2, g3⟩ := LR.out.hO
              refine ⟨p + 1, ⟨by omega, by go_num, rfl⟩, ⟨t4.heap LR.out.hg (by simp; exact hn.2.2.2.2.2), LR.out.hD.touch t4 (by simp; exact Ne.symm hB.1) (by simp; exact Ne.symm hB.2.1) (by simp; exact Ne.symm hB.2.2.1) (by simp; exact Ne.symm hB.2.2.2), ⟨ls, t4.heap g1 (by simp; exact hO.2.2.2.2), g2, fun i x hi hx => g3 i x hi ?_⟩, ?_, LR.out.ng, LR.out.nO, LR.out.nB⟩, TR.out.trans t4⟩
              · simp only [LogS.ovFrom] at hx ⊢
                split at hx
                · cases hx
                · rw [if_neg (by omega)]; exact hx
              · rw [heap_setCell_cells LR.out.hB, HST.out]
          · have hpe : p = pn := by omega
            subst hpe
            clear hl ht
            go_wp2_with fail
            go_ret
            rw [EE.out, MC.out _ HPN.out]
            exact ⟨rfl, LR.out, T7.out.trans (TR.out.mono (by simp))⟩
end Go.Proofs.YthbaipljlbddcaaGreat
/-
  What lies on a disk, by the document: ciboriumref08.Open.
-/
namespace Go.Cib
open Go Go.RowKit
theorem rows_falses (n : Nat) : rowsA (List.replicate n (Value.bool false).cells) = ((List.range n).map fun (_ : Nat) => Value.bool false).toArray := by
  apply Array.toList_inj.1
  have h : ∀ n, (List.replicate n (Value.bool false).cells).flatMap Array.toList = List.replicate n (Value.bool false) := by
    intro n
    induction n with
    | zero => rfl
    | succ n ih => rw [List.replicate_succ, List.flatMap_cons, ih]; rfl
  have h2 : ((List.range n).map fun (_ : Nat) => Value.bool false) = List.replicate n (Value.bool false) := by simp [List.map_const']
  show ((List.replicate n (Value.bool false).cells).flatMap Array.toList) = ((List.range n).map fun (_ : Nat) => Value.bool false)
  rw [h, h2]
section
variable {P : Program} {ops : Array Oper} {rest : List Oper} {a : Act} {w : World} {Q : Exit → Act → World → Prop} {dst : Option Tmp} {ty : TypeId} {pos : String} {af : Array Edge} {x y : Operand}
theorem wc_mkBools {T E : TypeId} (hT : P.underlying T = some (.slice E)) (hE : (P.info? E).map (fun i => (i.zero, i.size, i.bytes)) = some (some (.bool false), 1, 1)) {m : Nat}
    (hn : m ≤ 281474976710656) (hx : a.eval x = .int .i64 m) (hy : a.eval y = .int .i64 m)
    (h : wpList P ops Q rest (a.put dst (.slice (some ⟨w.heap.size, 0, none⟩) m m)) (w.alloc (.cells ((List.range m).map fun (_ : Nat) => Value.bool false).toArray E))) :
    wpList P ops Q (⟨dst, .makeSlice T x y, ty, pos, af, none⟩ :: rest) a w := by
  obtain ⟨i, hi, hi2⟩ := Option.map_eq_some_iff.1 hE
  simp only [Prod.mk.injEq] at hi2
  refine wc_value rfl ?_ h
  rw [exec_makeRows hT hi hi2.1 (by rw [hi2.2.1]; rfl) (by rw [hi2.2.2]; omega) (by omega) hx hy, rows_falses]
end
end Go.Cib
namespace Go.Proofs.YthbaipljlbddcaaGreat
open Go.RowKit Go.Cib
theorem rPages : Tryz.prog.underlying 50 = some (.slice 64) := by kernel_rfl
/-- The log while its head is looked for: no pages yet. -/
structure RHead (w : World) (g r a b c : Nat) (D : DiskS) (S : LogS) : Prop where
  hg : w.heap[g]? = some (.cells #[.pointer (some ⟨r, 0, none⟩), .int .i64 S.log, .int .i64 S.pages, .int .u64 S.gen, .int .i64 0, .int .u64 0, .slice none 0 0, .slice none 0 0, .bool false] 52)
  hD : RefAt w r a b c D
  ng : g ∉ [r, a, b, c]
theorem RHead.old {w w' : World} {g r a b c : Nat} {D : DiskS} {S : LogS} (h : RHead w g r a b c D S) (ht : Tch [] w w') : RHead w' g r a b c D S :=
  ⟨ht.heap h.hg (by simp), h.hD.touch ht (by simp) (by simp) (by simp) (by simp), h.ng⟩
theorem RHead.cell {w : World} {g r a b c : Nat} {D : DiskS} {S : LogS} (h : RHead w g r a b c D S) (j : Nat) {v : Value}
    (hv : (#[.pointer (some ⟨r, 0, none⟩), .int .i64 S.log, .int .i64 S.pages, .int .u64 S.gen, .int .i64 0, .int .u64 0, .slice none 0 0, .slice none 0 0, .bool false] : Array Value)[j]? = some v) : w.cell? ⟨g, j, none⟩ = some v := by
  rw [cell_of_row w g j _ _ _ h.hg]; exact hv
theorem headsN_next (D : DiskS) (k : Nat) (hk : k < 2) (hl : D.lasts.length ≤ 16384) (f : FrameV) (hf : parse (D.read (k : Nat)).1 = f) :
    (¬ (f.sector = (D.read (k : Nat)).1 ∧ rcounts D k f ∧ (headsN D k).gen < f.gen) → headsN D (k + 1) = headsN D k) ∧
    ((f.sector = (D.read (k : Nat)).1 ∧ rcounts D k f ∧ (headsN D k).gen < f.gen) → headsN D (k + 1) = { headsN D k with gen := f.gen, log := numAt f.page 0, pages := numAt f.page 1 }) := by
  have hd := (headsN_keep D k).1
  have hi := rcounts_iff (S := headsN D k) (by rw [hd]; exact hl) k f
  rw [hd] at hi
  rw [headsN_succ D k hk]
  unfold LogS.chooses
  rw [hf]
  constructor
  · intro hn
    rw [if_neg (fun hc => hn ⟨hc.1, hi.1 hc.2⟩)]
  · intro hc
    rw [if_pos ⟨hc.1, hi.2 hc.2⟩]
set_option maxRecDepth 20000 in
theorem cf_rcounts (args : Array Value) (w : World) : (callFunc 58 args).run Tryz.prog w = .ok (.enter 58 args) w := rfl
/-- What the document's Open hands back. -/
def ROpenOut (w : World) (r a b c : Nat) (R : Int × Option LogS × DiskS) (e : Ending) (w' : World) : Prop :=
  Tch [r, a, b, c] w w' ∧ RefAt w' r a b c R.2.2 ∧ ((R.2.1 = none ∧ e = .returned (.tuple #[.pointer none, .int .i64 R.1])) ∨
    ∃ S g O B, R.2.1 = some S ∧ e = .returned (.tuple #[.pointer (some ⟨g, 0, none⟩), .int .i64 0]) ∧ R.1 = 0 ∧ RLogAt w' g r a b c O B S ∧ S.Ok ∧ w.heap.size ≤ g ∧ w.heap.size ≤ O ∧ w.heap.size ≤ B)

set_option maxRecDepth 20000 in
set_option maxHeartbeats 2000000 in
theorem ropen_any {w : World} {r a b c : Nat} {D : DiskS} (h : RefAt w r a b c D) :
    Calls Tryz.prog 25 #[.pointer (some ⟨r, 0, none⟩)] w fun e w' => ROpenOut w r a b c (LogS.opens D) e w' := by
  have H := Lib.hid h
  have hrw := lt_of_heap h.hr
  have haw := lt_of_heap h.hL
  have hbw : b < w.heap.size := by obtain ⟨ws, g1, _⟩ := h.hW; exact lt_of_heap g1
  have hcw := lt_of_heap h.hH
  clear h
  go_enter Tryz.func25, Tryz.ntmps25
  go_upto_region 2 with fail
  obtain ⟨g, hg⟩ : ∃ g, w.heap.size = g := ⟨_, rfl⟩
  obtain ⟨W, hW⟩ : ∃ W, w.alloc (.cells #[.pointer (some ⟨r, 0, none⟩), .int .i64 0, .int .i64 0, .int .u64 0, .int .i64 0, .int .u64 0, .slice none 0 0, .slice none 0 0, .bool false] 52) = W := ⟨_, rfl⟩
  have tW : Tch [] w W := by rw [← hW]; exact (Tch.refl _ _).alloc _
  have bg : W.heap[g]? = some (.cells #[.pointer (some ⟨r, 0, none⟩), .int .i64 0, .int .i64 0, .int .u64 0, .int .i64 0, .int .u64 0, .slice none 0 0, .slice none 0 0, .bool false] 52) := by
    rw [← hW, ← hg]; exact heap_alloc_new _ _
  have hl0 : RHead W g r a b c D (headsN D 0) := ⟨bg, H.out.touch tW (by simp) (by simp) (by simp) (by simp), by simp; omega⟩
  rw [hW, hg]
  have HL0 := Lib.hid hl0
  have TW := Lib.hid tW
  have HV := Lib.hid hg
  have hlen := H.out.ok.size
  clear hW tW bg hl0 hg
  go_wp2_with fail
  go_loopg [5] 2 (fun q i wr => ∃ k, OnAt 2 i q k ∧ RHead wr g r a b c D (headsN D k) ∧ Tch [g] W wr ∧ (1 ≤ k → (D.read 0).2 = 0) ∧ (2 ≤ k → (D.read 1).2 = 0))
  case atStart => exact ⟨0, ⟨by omega, rfl, rfl⟩, HL0.out, Tch.refl _ _, by omega, by omega⟩
  case round =>
    obtain ⟨k, ⟨hk, rfl, rfl⟩, hl, ht, hr0, hr1⟩ := hrel
    have LK := Lib.hid hl
    have TK := Lib.hid ht
    have R0 := Lib.hid hr0
    have R1 := Lib.hid hr1
    clear hl ht hr0 hr1
    by_cases hk2 : k < 2
    · obtain ⟨s, hs⟩ : ∃ s, (D.read (k : Nat)).1 = s := ⟨_, rfl⟩
      obtain ⟨er, her⟩ : ∃ er, (D.read (k : Nat)).2 = er := ⟨_, rfl⟩
      have RD : Hid (Calls Tryz.prog 56 #[.pointer (some ⟨r, 0, none⟩), .int .i64 k] wr fun e w' => e = .returned (.tuple #[.agg (secA s), .int .i64 er]) ∧ Tch [] wr w') := by
        rw [← hs, ← her]; exact refRead_any LK.out.hD (k : Nat)
      by_cases hz : er = 0
      · subst hz
        obtain ⟨f, hf⟩ : ∃ f, parse s = f := ⟨_, rfl⟩
        obtain ⟨hno, hyes⟩ := headsN_next D k hk2 hlen f (by rw [hs]; exact hf)
        rw [hs] at hno hyes
        have NO := Lib.hid hno
        have YES := Lib.hid hyes
        have FOK : Hid f.Ok := hf ▸ parse_ok s
        have HF := Lib.hid hf
        have HER := Lib.hid her
        obtain ⟨ob, hob⟩ : ∃ ob, decide (f.sector = s) = ob := ⟨_, rfl⟩
        have HOB := Lib.hid hob
        clear hs her hno hyes hf hob
        go_upto_region 8 with (first | (go_at_call 56; refine RD.out.mono ?_; rintro e w2 ⟨rfl, q1⟩; have T2 := Lib.hid q1; clear q1) | ((with_reducible refine wc_alloc_arr secT ?_); go_frame; (try simp only [World.size_alloc])) | ((with_reducible apply wc_store_new secT); exact rfl; exact rfl; go_frame))
        obtain ⟨w3, hw3⟩ : ∃ w3, w2.alloc (.cells (secA s) 26) = w3 := ⟨_, rfl⟩
        have t3 : Tch [] wr w3 := by rw [← hw3]; exact T2.out.alloc _
        have b3 : w3.heap[w2.heap.size]? = some (.cells (secA s) 26) := by rw [← hw3]; exact heap_alloc_new _ _
        rw [hw3]
        have B3 := Lib.hid b3
        have T3 := Lib.hid t3
        clear hw3 t3 b3 T2
        go_upto_region 9 with (first | ((with_reducible apply wc_load_var secT B3.out); exact rfl; go_frame) | (go_at_call 57; refine (rread_any s _).mono ?_; rintro e w4 ⟨rfl, q1⟩; rw [HF.out, HOB.out]; have T4 := Lib.hid q1; clear q1) | ((with_reducible refine wc_alloc_frame rframeTT ?_); go_frame) | ((with_reducible apply wc_store_frame rframeTT (heap_alloc_new w4 (.cells (frameA FrameV.zero) 75)) (g := f)); exact rfl; exact rfl; go_frame; rw [setRow_alloc_new]))
        obtain ⟨F, hF⟩ : ∃ F, w4.heap.size = F := ⟨_, rfl⟩
        obtain ⟨w5, hw5⟩ : ∃ w5, w4.alloc (.cells (frameA f) 75) = w5 := ⟨_, rfl⟩
        have b5 : w5.heap[F]? = some (.cells (frameA f) 75) := by rw [← hw5, ← hF]; exact heap_alloc_new _ _
        have t5 : Tch [] wr w5 := by rw [← hw5]; exact (T3.out.trans T4.out).alloc _
        rw [hF, hw5]
        have B5 := Lib.hid b5
        have T5 := Lib.hid t5
        have L5 := Lib.hid (LK.out.old t5)
        have hgF : g ≠ F := by
          have h1 := lt_of_heap LK.out.hg
          have h2 := (T3.out.trans T4.out).size
          omega
        clear hF hw5 b5 t5 T4 T3 B3
        obtain ⟨cb, hcb⟩ : ∃ cb, decide (rcounts D k f) = cb := ⟨_, rfl⟩
        have CC : Hid (∀ w', Tch [] w5 w' → Calls Tryz.prog 58 #[.pointer (some ⟨r, 0, none⟩), .int .i64 k, .agg (frameA f)] w' (fun e w'' => e = .returned (.bool cb) ∧ Tch [] w5 w'')) := fun w' ht => by
          refine (rcounts_any (L5.out.old ht).hD k hk2 f FOK.out).mono ?_
          rintro e w'' ⟨h1, h2⟩
          exact ⟨by rw [h1, hcb], ht.trans h2⟩
        have KF : Hid (∀ w', Tch [] w5 w' → w'.heap[F]? = some (.cells (frameA f) 75)) := fun w' ht => ht.heap B5.out (by simp)
        obtain ⟨_, k1, _, _⟩ := frame_cell B5.out
        have C1 : Hid (∀ w', Tch [] w5 w' → w'.cell? ⟨F, 1, none⟩ = some (.int .u64 f.gen)) := fun w' ht => cell_old ht k1
        have C3 : Hid (∀ w', Tch [] w5 w' → w'.cell? ⟨g, 3, none⟩ = some (.int .u64 (headsN D k).gen)) := fun w' ht => cell_old ht (L5.out.cell 3 rfl)
        have HCB := Lib.hid hcb
        clear hcb k1
        by_cases hall : ob = true ∧ cb = true ∧ (headsN D k).gen < f.gen
        rotate_left
        · have e9 : headsN D (k + 1) = headsN D k := NO.out (fun hh => hall ⟨by rw [← HOB.out]; exact decide_eq_true hh.1, by rw [← HCB.out]; exact decide_eq_true hh.2.1, hh.2.2⟩)
          have E9 := Lib.hid e9
          have fin : Hid (∀ w6, Tch [] w5 w6 → RHead w6 g r a b c D (headsN D (k + 1)) ∧ Tch [g] W w6) := fun w6 t6 => by
            rw [E9.out]
            exact ⟨L5.out.old t6, TK.out.trans ((T5.out.trans t6).mono (by simp))⟩
          have er2 : Hid ((1 ≤ k + 1 → (D.read 0).2 = 0) ∧ (2 ≤ k + 1 → (D.read 1).2 = 0)) := by
            refine ⟨fun _ => ?_, fun h2 => ?_⟩
            · rcases Nat.eq_zero_or_pos k with h0 | h0
              · subst h0; exact HER.out
              · exact R0.out h0
            · have : k = 1 := by omega
              subst this
              exact HER.out
          clear e9
          cases ob with
          | false =>
            refine wp_region_walk (C := fun w' => Tch [] w5 w') 16 (by kernel_rfl) (by kernel_rfl) ((Tch.refl _ _).drew) ?_
            simp only [List.take_succ_cons, List.take_zero, List.drop_succ_cons, List.drop_zero]
            (repeat (first | ((with_reducible refine wq_load_frame rframeTT KF.out ?_ ?_ ?_); exact rfl; exact rfl; go_frame) | ((with_reducible refine wq_fn cf_rcounts ?_ ?_ CC.out ?_); exact rfl; exact rfl; go_frame) | ((with_reducible refine wq_load_cell (by kernel_rfl) C1.out ?_ ?_ ?_); exact rfl; exact rfl; go_frame) | ((with_reducible refine wq_load_cell (by kernel_rfl) C3.out ?_ ?_ ?_); exact rfl; exact rfl; go_frame) | go_big_quiet_skip | (go_big_quiet_want; go_big_quiet_op; first | go_big_quiet_on | (refine ⟨_, fun _ _ => rfl, ?_⟩; go_big_quiet_on))))
            refine wpQuiet_nil ?_
            intro w6 t6
            have T6 := Lib.hid t6
            clear t6
            go_wp2_with fail
            go_roundg (2 - (k + 1))
            case measure => omega
            case rel => exact ⟨k + 1, ⟨by omega, by go_num, rfl⟩, (fin.out _ T6.out).1, (fin.out _ T6.out).2, er2.out.1, er2.out.2⟩
          | true =>
            cases cb with
            | false =>
              refine wp_region_walk (C := fun w' => Tch [] w5 w') 16 (by kernel_rfl) (by kernel_rfl) ((Tch.refl _ _).drew) ?_
              simp only [List.take_succ_cons, List.take_zero, List.drop_succ_cons, List.drop_zero]
              (repeat (first | ((with_reducible refine wq_load_frame rframeTT KF.out ?_ ?_ ?_); exact rfl; exact rfl; go_frame) | ((with_reducible refine wq_fn cf_rcounts ?_ ?_ CC.out ?_); exact rfl; exact rfl; go_frame) | ((with_reducible refine wq_load_cell (by kernel_rfl) C1.out ?_ ?_ ?_); exact rfl; exact rfl; go_frame) | ((with_reducible refine wq_load_cell (by kernel_rfl) C3.out ?_ ?_ ?_); exact rfl; exact rfl; go_frame) | go_big_quiet_skip | (go_big_quiet_want; go_big_quiet_op; first | go_big_quiet_on | (refine ⟨_, fun _ _ => rfl, ?_⟩; go_big_quiet_on))))
              refine wpQuiet_nil ?_
              intro w6 t6
              have T6 := Lib.hid t6
              clear t6
              go_wp2_with fail
              go_roundg (2 - (k + 1))
              case measure => omega
              case rel => exact ⟨k + 1, ⟨by omega, by go_num, rfl⟩, (fin.out _ T6.out).1, (fin.out _ T6.out).2, er2.out.1, er2.out.2⟩
            | true =>
              have hng0 : ¬ (headsN D k).gen < f.gen := fun h => hall ⟨rfl, rfl, h⟩
              have hng : ¬ ((headsN D k).gen : Int) < f.gen := by omega
              clear hall
              refine wp_region_walk (C := fun w' => Tch [] w5 w') 16 (by kernel_rfl) (by kernel_rfl) ((Tch.refl _ _).drew) ?_
              simp only [List.take_succ_cons, List.take_zero, List.drop_succ_cons, List.drop_zero]
              (repeat (first | ((with_reducible refine wq_load_frame rframeTT KF.out ?_ ?_ ?_); exact rfl; exact rfl; go_frame) | ((with_reducible refine wq_fn cf_rcounts ?_ ?_ CC.out ?_); exact rfl; exact rfl; go_frame) | ((with_reducible refine wq_load_cell (by kernel_rfl) C1.out ?_ ?_ ?_); exact rfl; exact rfl; go_frame) | ((with_reducible refine wq_load_cell (by kernel_rfl) C3.out ?_ ?_ ?_); exact rfl; exact rfl; go_frame) | go_big_quiet_skip | (go_big_quiet_want; go_big_quiet_op; first | go_big_quiet_on | (refine ⟨_, fun _ _ => rfl, ?_⟩; go_big_quiet_on))))
              refine wpQuiet_nil ?_
              intro w6 t6
              have T6 := Lib.hid t6
              clear t6
              go_wp2_with fail
              go_roundg (2 - (k + 1))
              case measure => omega
              case rel => exact ⟨k + 1, ⟨by omega, by go_num, rfl⟩, (fin.out _ T6.out).1, (fin.out _ T6.out).2, er2.out.1, er2.out.2⟩
        · obtain ⟨rfl, rfl, hgt⟩ := hall
          have e9 : headsN D (k + 1) = { headsN D k with gen := f.gen, log := numAt f.page 0, pages := numAt f.page 1 } := YES.out ⟨of_decide_eq_true HOB.out, of_decide_eq_true HCB.out, hgt⟩
          have E9 := Lib.hid e9
          have hgt' : ((headsN D k).gen : Int) < f.gen := by omega
          have er2 : Hid ((1 ≤ k + 1 → (D.read 0).2 = 0) ∧ (2 ≤ k + 1 → (D.read 1).2 = 0)) := by
            refine ⟨fun _ => ?_, fun h2 => ?_⟩
            · rcases Nat.eq_zero_or_pos k with h0 | h0
              · subst h0; exact HER.out
              · exact R0.out h0
            · have : k = 1 := by omega
              subst this
              exact HER.out
          clear e9
          refine wp_region_walk (C := fun w' => Tch [] w5 w') 16 (by kernel_rfl) (by kernel_rfl) ((Tch.refl _ _).drew) ?_
          simp only [List.take_succ_cons, List.take_zero, List.drop_succ_cons, List.drop_zero]
          (repeat (first | ((with_reducible refine wq_load_frame rframeTT KF.out ?_ ?_ ?_); exact rfl; exact rfl; go_frame) | ((with_reducible refine wq_fn cf_rcounts ?_ ?_ CC.out ?_); exact rfl; exact rfl; go_frame) | ((with_reducible refine wq_load_cell (by kernel_rfl) C1.out ?_ ?_ ?_); exact rfl; exact rfl; go_frame) | ((with_reducible refine wq_load_cell (by kernel_rfl) C3.out ?_ ?_ ?_); exact rfl; exact rfl; go_frame) | go_big_quiet_skip | (go_big_quiet_want; go_big_quiet_op; first | go_big_quiet_on | (refine ⟨_, fun _ _ => rfl, ?_⟩; go_big_quiet_on))))
          refine wpQuiet_nil ?_
          intro w6 t6
          have T6 := Lib.hid t6
          have B6 := Lib.hid (KF.out _ t6)
          have L6 := Lib.hid (L5.out.old t6)
          have k61 := C1.out _ t6
          clear t6 CC KF C1 C3 B5 L5
          obtain ⟨lg, hlg⟩ : ∃ lg, numAt f.page 0 = lg := ⟨_, rfl⟩
          obtain ⟨pg, hpg⟩ : ∃ pg, numAt f.page 1 = pg := ⟨_, rfl⟩
          have f3 := frozen_of_row w6 g 3 _ _ L6.out.hg
          have d3 := L6.out.cell 3 rfl
          have HGF := Lib.hid hgF
          have HLG := Lib.hid hlg
          have HPG := Lib.hid hpg
          clear hlg hpg hgF
          go_upto_region 11 with fail
          obtain ⟨wA, hwA⟩ : ∃ wA, w6.setCell ⟨g, 3, none⟩ (.int .u64 f.gen) = wA := ⟨_, rfl⟩
          have tA : Tch [g] w6 wA := by rw [← hwA]; exact (Tch.refl _ _).setCell (by simp) _
          have gA : wA.heap[g]? = some (.cells #[.pointer (some ⟨r, 0, none⟩), .int .i64 (headsN D k).log, .int .i64 (headsN D k).pages, .int .u64 f.gen, .int .i64 0, .int .u64 0, .slice none 0 0, .slice none 0 0, .bool false] 52) := by rw [← hwA, heap_setCell_cells L6.out.hg]; rfl
          have bA := tA.heap B6.out (by have := HGF.out; simp; omega)
          rw [hwA]
          have TA := Lib.hid tA
          have GA := Lib.hid gA
          have BA := Lib.hid bA
          clear hwA tA gA bA f3 d3 k61
          go_upto_region 12 with (first | ((with_reducible refine wc_load_framepage pageT.agg BA.out ?_ ?_); exact rfl; go_frame) | (go_at_call 59; refine (rnumber_any f.page 0 (by omega) wA).mono ?_; rintro e wB ⟨rfl, q1⟩; rw [HLG.out]; have TB := Lib.hid q1; have GB := Lib.hid (q1.heap GA.out (by simp)); have BB := Lib.hid (q1.heap BA.out (by simp)); have f1 := frozen_of_row wB g 1 _ _ (q1.heap GA.out (by simp)); have d1 : wB.cell? ⟨g, 1, none⟩ = some (.int .i64 (headsN D k).log) := (cell_of_row wB g 1 _ _ _ (q1.heap GA.out (by simp))).trans rfl; clear q1))
          obtain ⟨wC, hwC⟩ : ∃ wC, wB.setCell ⟨g, 1, none⟩ (.int .i64 lg) = wC := ⟨_, rfl⟩
          have tC : Tch [g] wB wC := by rw [← hwC]; exact (Tch.refl _ _).setCell (by simp) _
          have gC : wC.heap[g]? = some (.cells #[.pointer (some ⟨r, 0, none⟩), .int .i64 lg, .int .i64 (headsN D k).pages, .int .u64 f.gen, .int .i64 0, .int .u64 0, .slice none 0 0, .slice none 0 0, .bool false] 52) := by rw [← hwC, heap_setCell_cells GB.out]; rfl
          have bC := tC.heap BB.out (by have := HGF.out; simp; omega)
          rw [hwC]
          have TC := Lib.hid tC
          have GC := Lib.hid gC
          have BC := Lib.hid bC
          clear hwC tC gC bC f1 d1 BA GA BB GB
          go_wp2_with (first | ((with_reducible refine wc_load_framepage pageT.agg BC.out ?_ ?_); exact rfl; go_frame) | (go_at_call 59; refine (rnumber_any f.page 1 (by omega) wC).mono ?_; rintro e wD ⟨rfl, q1⟩; rw [HPG.out]; have TD := Lib.hid q1; have GD := Lib.hid (q1.heap GC.out (by simp)); have f2 := frozen_of_row wD g 2 _ _ (q1.heap GC.out (by simp)); have d2 : wD.cell? ⟨g, 2, none⟩ = some (.int .i64 (headsN D k).pages) := (cell_of_row wD g 2 _ _ _ (q1.heap GC.out (by simp))).trans rfl; clear q1))
          go_roundg (2 - (k + 1))
          case measure => omega
          case rel =>
            have tE : Tch [g] wD (wD.setCell ⟨g, 2, none⟩ (.int .i64 pg)) := (Tch.refl _ _).setCell (by simp) _
            have tt : Tch [g] w6 (wD.setCell ⟨g, 2, none⟩ (.int .i64 pg)) := TA.out.trans ((TB.out.mono (by simp)).trans (TC.out.trans ((TD.out.mono (by simp)).trans tE)))
            have hn := L6.out.ng
            simp only [List.mem_cons, List.not_mem_nil, or_false, not_or] at hn
            refine ⟨k + 1, ⟨by omega, by go_num, rfl⟩, ⟨?_, L6.out.hD.touch tt (by simp; exact Ne.symm hn.1) (by simp; exact Ne.symm hn.2.1) (by simp; exact Ne.symm hn.2.2.1) (by simp; exact Ne.symm hn.2.2.2), L6.out.ng⟩, TK.out.trans (((T5.out.trans T6.out).mono (by simp)).trans tt), er2.out.1, er2.out.2⟩
            rw [E9.out, heap_setCell_cells GD.out, HLG.out, HPG.out]
            rfl
      · have hz' : (er != 0) = true := by simp [hz]
        have ho : LogS.opens D = (er, none, D) := by
          unfold LogS.opens
          rcases Nat.eq_zero_or_pos k with h0 | h0
          · subst h0
            rw [if_pos (by rw [show ((0 : Nat) : Int) = 0 from rfl] at her; rw [her]; exact hz)]
            rw [show ((0 : Nat) : Int) = 0 from rfl] at her
            rw [her]
          · have h1 : k = 1 := by omega
            subst h1
            rw [show ((1 : Nat) : Int) = 1 from rfl] at her
            rw [if_neg (by rw [R0.out (by omega)]; simp), if_pos (by rw [her]; exact hz), her]
        have HO := Lib.hid ho
        clear hs her ho
        go_wp2_with (first | (go_at_call 56; refine RD.out.mono ?_; rintro e w2 ⟨rfl, q1⟩; have T2 := Lib.hid q1; clear q1) | ((with_reducible refine wc_alloc_arr secT ?_); go_frame; (try simp only [World.size_alloc])) | ((with_reducible apply wc_store_new secT); exact rfl; exact rfl; go_frame))
        go_ret2
        rw [HO.out]
        have t9 : Tch [] w (w2.alloc (.cells (secA s) 26)) := tch_own TW.out (TK.out.trans ((T2.out.alloc _).mono (by simp))) (by have := HV.out; simp; omega)
        exact ⟨t9.mono (by simp), H.out.touch t9 (by simp) (by simp) (by simp) (by simp), .inl ⟨rfl, rfl⟩⟩
    · have hk' : k = 2 := by omega
      subst hk'
      have e0 := R0.out (by omega)
      have e1 := R1.out (by omega)
      have ho : LogS.opens D = if (LogS.heads D).gen = 0 then (80, none, D) else
          if ((LogS.heads D).runs (LogS.heads D).log).checkpoint.1 ≠ 0 then (((LogS.heads D).runs (LogS.heads D).log).checkpoint.1, none, ((LogS.heads D).runs (LogS.heads D).log).checkpoint.2.disk)
          else (0, some ((LogS.heads D).runs (LogS.heads D).log).checkpoint.2, ((LogS.heads D).runs (LogS.heads D).log).checkpoint.2.disk) := by
        unfold LogS.opens
        rw [if_neg (by rw [e0]; simp), if_neg (by rw [e1]; simp)]
      have hdead : D.dead = false := by
        cases hd : D.dead with
        | false => rfl
        | true =>
          exfalso
          unfold DiskS.read DiskS.may at e0
          rw [hd] at e0
          simp at e0
      have c3 := LK.out.cell 3 rfl
      have HO := Lib.hid ho
      have HDD := Lib.hid hdead
      have t2w : Tch [] w wr := tch_own TW.out TK.out (by have := HV.out; simp; omega)
      have T2W := Lib.hid t2w
      clear e0 e1 ho hdead t2w
      by_cases hgz : (LogS.heads D).gen = 0
      · rw [if_pos hgz] at HO
        have hgb : (((headsN D 2).gen : Int) == 0) = true := by simp; exact hgz
        clear hgz
        go_wp2_with fail
        go_ret2
        rw [HO.out]
        exact ⟨T2W.out.mono (by simp), LK.out.hD, .inl ⟨rfl, rfl⟩⟩
      · rw [if_neg hgz] at HO
        have hgb : (((headsN D 2).gen : Int) == 0) = false := by simp; exact hgz
        have OK0 := Lib.hid (heads_ok D hgz)
        clear hgz
        obtain ⟨pn, hpn⟩ : ∃ pn, (headsN D 2).pages = pn := ⟨_, rfl⟩
        have hpn2 : pn ≤ 16384 := by rw [← hpn]; exact OK0.out.pages2
        have c2 : wr.cell? ⟨g, 2, none⟩ = some (.int .i64 pn) := by rw [← hpn]; exact LK.out.cell 2 rfl
        have f6 := frozen_of_row wr g 6 _ _ LK.out.hg
        have c6 := LK.out.cell 6 rfl
        have hgl := lt_of_heap LK.out.hg
        have HPN := Lib.hid hpn
        clear hpn
        go_upto_region 16 with ((with_reducible apply wc_makeArrs pageT rPages (m := pn)); omega; omega; exact rfl; exact rfl; go_frame)
        obtain ⟨O, hO⟩ : ∃ O, wr.heap.size = O := ⟨_, rfl⟩
        obtain ⟨w5, hw5⟩ : ∃ w5, (wr.setCell ⟨g, 6, none⟩ (.slice (some ⟨wr.heap.size, 0, none⟩) pn pn)).alloc (.cells (secsA (List.replicate pn (Arr.zero : Page))) 64) = w5 := ⟨_, rfl⟩
        have t5 : Tch [g] wr w5 := by rw [← hw5]; exact ((Tch.refl _ _).setCell (.inl (by simp)) _).alloc _
        have g5 : w5.heap[g]? = some (.cells #[.pointer (some ⟨r, 0, none⟩), .int .i64 (headsN D 2).log, .int .i64 pn, .int .u64 (headsN D 2).gen, .int .i64 0, .int .u64 0, .slice (some ⟨O, 0, none⟩) pn pn, .slice none 0 0, .bool false] 52) := by
          rw [← hw5]
          refine ((Tch.refl [] _).alloc _).heap ?_ (by simp)
          rw [heap_setCell_cells LK.out.hg, ← hO, ← HPN.out]
          rfl
        have o5 : w5.heap[O]? = some (.cells (secsA (List.replicate pn (Arr.zero : Page))) 64) := by
          rw [← hw5, ← hO, heap_alloc, if_pos (by simp)]
        have hOg : O ≠ g := by omega
        have T5 := Lib.hid t5
        have O5 := Lib.hid o5
        have d2 : w5.cell? ⟨g, 2, none⟩ = some (.int .i64 pn) := (cell_of_row w5 g 2 _ _ _ g5).trans rfl
        have d7 : w5.cell? ⟨g, 7, none⟩ = some (.slice none 0 0) := (cell_of_row w5 g 7 _ _ _ g5).trans rfl
        have f7 := frozen_of_row w5 g 7 _ _ g5
        have hgl5 := lt_of_heap g5
        have G5 := Lib.hid g5
        rw [hw5]
        clear hw5 t5 g5 o5 c2 c3 c6 f6 hgl
        go_upto_block 2 with ((with_reducible apply wc_mkBools uBools infoBool (m := pn)); omega; exact rfl; exact rfl; go_frame)
        obtain ⟨B, hB⟩ : ∃ B, w5.heap.size = B := ⟨_, rfl⟩
        obtain ⟨w6, hw6⟩ : ∃ w6, (w5.setCell ⟨g, 7, none⟩ (.slice (some ⟨w5.heap.size, 0, none⟩) pn pn)).alloc (.cells ((List.range pn).map fun (_ : Nat) => Value.bool false).toArray 4) = w6 := ⟨_, rfl⟩
        have t6 : Tch [g] w5 w6 := by rw [← hw6]; exact ((Tch.refl _ _).setCell (.inl (by simp)) _).alloc _
        have g6 : w6.heap[g]? = some (.cells #[.pointer (some ⟨r, 0, none⟩), .int .i64 (headsN D 2).log, .int .i64 pn, .int .u64 (headsN D 2).gen, .int .i64 0, .int .u64 0, .slice (some ⟨O, 0, none⟩) pn pn, .slice (some ⟨B, 0, none⟩) pn pn, .bool false] 52) := by
          rw [← hw6]
          refine ((Tch.refl [] _).alloc _).heap ?_ (by simp)
          rw [heap_setCell_cells G5.out, ← hB]
          rfl
        have b6 : w6.heap[B]? = some (.cells ((List.range pn).map fun (_ : Nat) => Value.bool false).toArray 4) := by
          rw [← hw6, ← hB, heap_alloc, if_pos (by simp)]
        rw [hw6]
        have o6 := t6.heap O5.out (by simp; omega)
        have hOl := lt_of_heap O5.out
        obtain ⟨hk1, hk2, hk3, hk4, hk5⟩ := headsN_keep D 2
        have hgw := HV.out
        have hWs := TW.out.size
        have hKs := TK.out.size
        have l6 : RLogAt w6 g r a b c O B (headsN D 2) := by
          refine ⟨?_, ?_, ⟨_, o6, by rw [List.length_replicate, HPN.out], fun i x _ hx => by rw [hk4] at hx; cases hx⟩, ?_, by simp; omega, by simp; omega, by simp; omega⟩
          · rw [hk2, hk3, hk5, HPN.out]; exact g6
          · rw [hk1]
            exact LK.out.hD.touch (T5.out.trans t6) (by have := LK.out.ng; simp at this ⊢; omega) (by have := LK.out.ng; simp at this ⊢; omega) (by have := LK.out.ng; simp at this ⊢; omega) (by have := LK.out.ng; simp at this ⊢; omega)
          · rw [b6]
            unfold hasP
            rw [hk4, HPN.out]
            rfl
        have L6 := Lib.hid l6
        have hOw : w.heap.size ≤ O := by omega
        have hBw : w.heap.size ≤ B := by omega
        have T6 : Hid (Tch [] w w6) := tch_own T2W.out (T5.out.trans t6) (by simp; omega)
        clear hw6 t6 g6 b6 o6 l6 hk1 hk2 hk3 hk4 hk5 hWs hKs d2 d7 f7 hgl5 hOl G5 O5 hB hO hOg T5
        obtain ⟨N, hN⟩ : ∃ N, (LogS.heads D).log = N := ⟨_, rfl⟩
        have HN := Lib.hid hN
        obtain ⟨R, hR⟩ : ∃ R, (LogS.heads D).runs (LogS.heads D).log = R := ⟨_, rfl⟩
        rw [hR] at HO
        obtain ⟨okR, dR⟩ := LogS.runs_ok (LogS.heads D).log (LogS.heads D) OK0.out
        rw [hR] at okR dR
        have OKR := Lib.hid okR
        have HR := Lib.hid hR
        have H20 := Lib.hid (headsN_keep D 2)
        clear hN hR okR dR hgb
        go_wp2_with fail
        go_loopg [] N (fun q w' => ∃ S' n, q = S'.log - S'.used ∧ RLogAt w' g r a b c O B S' ∧ S'.Ok ∧ S'.disk = D ∧ R = S'.runs n ∧ S'.log - S'.used ≤ n ∧ Tch [g, O, B] w6 w')
        case atStart =>
          refine ⟨headsN D 2, N, ?_, L6.out, OK0.out, H20.out.1, ?_, ?_, Tch.refl _ _⟩
          · show N = (LogS.heads D).log - (headsN D 2).used; rw [H20.out.2.1, HN.out]; rfl
          · rw [← HR.out, HN.out]; rfl
          · show (LogS.heads D).log - _ ≤ _; rw [HN.out]; omega
        case round =>
          obtain ⟨S', n, rfl, hl, hok, hdk, hruns, hn, ht⟩ := hrel
          have RC := Lib.hid (rrecord_any hl (RecOk.of hok (by rw [hdk]; exact HDD.out)))
          have LS := Lib.hid hl
          have OKS := Lib.hid hok
          have HDK := Lib.hid hdk
          have HRU := Lib.hid hruns
          have TS := Lib.hid ht
          clear hl hok hdk hruns ht
          cases hrec : S'.record with
          | none =>
            have RN := Lib.hid (RC.out.mono (R' := fun e w' => e = .returned (.bool false) ∧ Tch [] wr w') (by
              rintro e w' (⟨_, h1, h2⟩ | ⟨ws, h0, _⟩)
              · exact ⟨h1, h2⟩
              · rw [hrec] at h0; cases h0))
            have hRS : R = S' := by rw [HRU.out, LogS.runs_stop n S' hrec]
            clear RC hrec
            obtain ⟨ec, hec⟩ : ∃ ec, S'.checkpoint.1 = ec := ⟨_, rfl⟩
            rw [hRS] at HO
            rw [hec] at HO
            have CK : Hid (∀ w5, RLogAt w5 g r a b c O B S' → Calls Tryz.prog 30 #[.pointer (some ⟨g, 0, none⟩)] w5 fun e w' => e = .returned (.int .i64 ec) ∧ RLogAt w' g r a b c O B S'.checkpoint.2 ∧ Tch [g, r, a, b, c, B] w5 w') := fun w5 h5 => by
              rw [← hec]; exact rcheckpoint_any h5 OKS.out
            have OKC := Lib.hid OKS.out.checkpoint
            clear hRS hec
            by_cases hz : ec = 0
            · subst hz
              rw [if_neg (by simp)] at HO
              go_wp2_with (first | (go_at_call 60; refine RN.out.mono ?_; rintro e w7 ⟨rfl, q1⟩; have T7 := Lib.hid q1; have L7 := Lib.hid (LS.out.old q1); clear q1) | (go_at_call 30; refine (CK.out _ L7.out).mono ?_; rintro e w8 ⟨rfl, q1, q2⟩; have L8 := Lib.hid q1; have T8 := Lib.hid q2; clear q1 q2))
              go_ret2
              rw [HO.out]
              have tfin : Tch [r, a, b, c] w w8 := ((T6.out.mono (S' := [g, O, B, r, a, b, c]) (by simp)).trans ((TS.out.mono (by simp)).trans ((T7.out.mono (by simp)).trans (T8.out.mono (by simp))))).drop (by intro x hx; simp at hx ⊢; omega)
              exact ⟨tfin, L8.out.hD, .inr ⟨_, g, O, B, rfl, rfl, rfl, L8.out, OKC.out, by omega, hOw, hBw⟩⟩
            · have hz' : (ec != 0) = true := by simp [hz]
              rw [if_pos hz] at HO
              go_wp2_with (first | (go_at_call 60; refine RN.out.mono ?_; rintro e w7 ⟨rfl, q1⟩; have T7 := Lib.hid q1; have L7 := Lib.hid (LS.out.old q1); clear q1) | (go_at_call 30; refine (CK.out _ L7.out).mono ?_; rintro e w8 ⟨rfl, q1, q2⟩; have L8 := Lib.hid q1; have T8 := Lib.hid q2; clear q1 q2))
              go_ret2
              rw [HO.out]
              have tfin : Tch [r, a, b, c] w w8 := ((T6.out.mono (S' := [g, O, B, r, a, b, c]) (by simp)).trans ((TS.out.mono (by simp)).trans ((T7.out.mono (by simp)).trans (T8.out.mono (by simp))))).drop (by intro x hx; simp at hx ⊢; omega)
              exact ⟨tfin, L8.out.hD, .inl ⟨rfl, rfl⟩⟩
          | some ws =>
            have RS := Lib.hid (RC.out.mono (R' := fun e w' => e = .returned (.bool true) ∧ RLogAt w' g r a b c O B (S'.took ws) ∧ Tch [g, O, B] wr w') (by
              rintro e w' (⟨h0, _⟩ | ⟨ws', h0, h1, h2, h3⟩)
              · rw [hrec] at h0; cases h0
              · rw [hrec] at h0; cases h0; exact ⟨h1, h2, h3⟩))
            obtain ⟨k1, k2, k3⟩ := LogS.record_some hrec
            have hn1 : ∃ n', n = n' + 1 := ⟨n - 1, by omega⟩
            obtain ⟨n', rfl⟩ := hn1
            have hru2 : R = (S'.took ws).runs n' := by rw [HRU.out, LogS.runs_succ, hrec]
            have HRU2 := Lib.hid hru2
            have K3 := Lib.hid k3
            clear RC hrec hru2 k3
            go_wp2_with (go_at_call 60; refine RS.out.mono ?_; rintro e w7 ⟨rfl, q1, q2⟩; have L7 := Lib.hid q1; have T7 := Lib.hid q2; clear q1 q2)
            go_roundg ((S'.took ws).log - (S'.took ws).used)
            case measure => show S'.log - (S'.used + ws.length + 2) < S'.log - S'.used; omega
            case rel => exact ⟨S'.took ws, n', rfl, L7.out, OKS.out.took k2 K3.out, HDK.out, HRU2.out, by show S'.log - (S'.used + ws.length + 2) ≤ n'; omega, TS.out.trans T7.out⟩
end Go.Proofs.YthbaipljlbddcaaGreat
/-
  What stands in a page, by the document: ciboriumref08's Read of a log.
-/
namespace Go.Proofs.YthbaipljlbddcaaGreat
open Go.RowKit Go.Cib
set_option maxRecDepth 20000 in
set_option maxHeartbeats 4000000 in
theorem rlogRead_any {w : World} {g r a b c O B0 : Nat} {S : LogS} (h : RLogAt w g r a b c O B0 S) (ok : S.Ok) (p : Int) :
    Calls Tryz.prog 31 #[.pointer (some ⟨g, 0, none⟩), .int .i64 p] w fun e w' => e = .returned (.tuple #[.agg (secA (S.read p).1.1), .int .i64 (S.read p).1.2]) ∧ RLogAt w' g r a b c O B0 (S.read p).2 ∧ Tch [g] w w' := by
  obtain ⟨W, hW⟩ : ∃ W, w.alloc (.cells (secA (Arr.zero : Page)) 64) = W := ⟨_, rfl⟩
  have tW : Tch [] w W := by rw [← hW]; exact (Tch.refl _ _).alloc _
  have bW : W.heap[w.heap.size]? = some (.cells (secA (Arr.zero : Page)) 64) := by rw [← hW]; exact heap_alloc_new _ _
  have h1 := h.old tW
  have c8 := h1.cell 8 rfl
  have c2 := h1.cell 2 rfl
  have c6 := h1.cell 6 rfl
  have c7 := h1.cell 7 rfl
  have hgw := lt_of_heap h.hg
  have hrw := lt_of_heap h.hD.hr
  have haw := lt_of_heap h.hD.hL
  have hbw : b < w.heap.size := by obtain ⟨ws, g1, _⟩ := h.hD.hW; exact lt_of_heap g1
  have hcw := lt_of_heap h.hD.hH
  have hOw : O < w.heap.size := by obtain ⟨ls, g1, _⟩ := h.hO; exact lt_of_heap g1
  have hBw := lt_of_heap h.hB
  have HW := Lib.hid hW
  have TW := Lib.hid tW
  have BW := Lib.hid bW
  have H1 := Lib.hid h1
  have OKK := Lib.hid ok
  clear hW tW bW h1 h ok
  have FIN : Hid (∀ (wX : World) (S' : LogS), RLogAt wX g r a b c O B0 S' → Tch [g] w wX → ∀ q : Page, RLogAt (wX.setRow w.heap.size (secA q)) g r a b c O B0 S' ∧ Tch [g] w (wX.setRow w.heap.size (secA q))) := fun wX S' hX tX q => by
    have t : Tch [w.heap.size] wX (wX.setRow w.heap.size (secA q)) := (Tch.refl _ _).setRow (.inl (by simp)) _
    exact ⟨hX.touch t (by simp; omega), tX.setRow (.inr (Nat.le_refl _)) _⟩
  cases hd : S.dead with
  | true =>
    rw [hd] at c8
    have e : S.read p = ((Arr.zero, 6), S) := by unfold LogS.read; rw [if_pos hd]
    have E := Lib.hid e
    clear e hd
    go_enter Tryz.func31, Tryz.ntmps31
    go_upto_region 1 with ((with_reducible refine wc_alloc_arr pageT ?_); go_frame)
    rw [HW.out]
    go_wp2_with (first | ((with_reducible apply wc_build_arr pageT); exact rfl; go_frame) | ((with_reducible apply wc_store_var pageT BW.out); exact rfl; exact rfl; go_frame))
    refine bodyPost_ret (res_cell_tmp pageT.agg rfl _ rfl (setRow_heap _ _ _ _ _ _ BW.out) (size_secA _)) rfl ?_
    rw [E.out]
    exact ⟨rfl, FIN.out _ _ H1.out (TW.out.mono (by simp)) _⟩
  | false =>
    rw [hd] at c8
    by_cases hr : p < 0 ∨ (S.pages : Int) ≤ p
    · have e : S.read p = ((Arr.zero, 2), S) := by unfold LogS.read; rw [if_neg (by simp [hd]), if_pos hr]
      have E := Lib.hid e
      clear e hd
      by_cases hp0 : p < 0
      · clear hr
        go_enter Tryz.func31, Tryz.ntmps31
        go_upto_region 1 with ((with_reducible refine wc_alloc_arr pageT ?_); go_frame)
        rw [HW.out]
        go_wp2_with (first | ((with_reducible apply wc_build_arr pageT); exact rfl; go_frame) | ((with_reducible apply wc_store_var pageT BW.out); exact rfl; exact rfl; go_frame))
        refine bodyPost_ret (res_cell_tmp pageT.agg rfl _ rfl (setRow_heap _ _ _ _ _ _ BW.out) (size_secA _)) rfl ?_
        rw [E.out]
        exact ⟨rfl, FIN.out _ _ H1.out (TW.out.mono (by simp)) _⟩
      · have hpp : (S.pages : Int) ≤ p := hr.resolve_left hp0
        clear hr
        go_enter Tryz.func31, Tryz.ntmps31
        go_upto_region 1 with ((with_reducible refine wc_alloc_arr pageT ?_); go_frame)
        rw [HW.out]
        go_wp2_with (first | ((with_reducible apply wc_build_arr pageT); exact rfl; go_frame) | ((with_reducible apply wc_store_var pageT BW.out); exact rfl; exact rfl; go_frame))
        refine bodyPost_ret (res_cell_tmp pageT.agg rfl _ rfl (setRow_heap _ _ _ _ _ _ BW.out) (size_secA _)) rfl ?_
        rw [E.out]
        exact ⟨rfl, FIN.out _ _ H1.out (TW.out.mono (by simp)) _⟩
    obtain ⟨n, rfl⟩ := Int.eq_ofNat_of_zero_le (show 0 ≤ p by omega)
    have hnp : n < S.pages := by omega
    have hr1 : ¬ ((n : Int) < 0) := by omega
    have hr2 : ¬ ((S.pages : Int) ≤ n) := by omega
    cases hov : S.over (n : Int) with
    | some x =>
      have e : S.read n = ((x, 0), S) := by unfold LogS.read; rw [if_neg (by simp [hd]), if_neg hr, hov]
      have E := Lib.hid e
      obtain ⟨ls, hls, hll, hlx⟩ := H1.out.hO
      have hx := hlx n x hnp hov
      have cB : W.cell? ⟨B0, n, none⟩ = some (.bool true) := by
        rw [cell_of_row W B0 n _ _ _ H1.out.hB, hasP_get S n hnp, hov]; rfl
      have HLS := Lib.hid hls
      have HX := Lib.hid hx
      clear e hd hov hr hls hll hlx hx
      go_enter Tryz.func31, Tryz.ntmps31
      go_upto_region 1 with ((with_reducible refine wc_alloc_arr pageT ?_); go_frame)
      rw [HW.out]
      go_wp2_with (first | ((with_reducible refine wc_load_row pageT HLS.out HX.out ?_ ?_); exact rfl; go_frame) | ((with_reducible apply wc_store_var pageT BW.out); exact rfl; exact rfl; go_frame))
      refine bodyPost_ret (res_cell_tmp pageT.agg rfl _ rfl (setRow_heap _ _ _ _ _ _ BW.out) (size_secA _)) rfl ?_
      rw [E.out]
      exact ⟨rfl, FIN.out _ _ H1.out (TW.out.mono (by simp)) _⟩
    | none =>
      obtain ⟨s, hs⟩ : ∃ s, (S.disk.read (2 + S.log + n)).1 = s := ⟨_, rfl⟩
      obtain ⟨er, her⟩ : ∃ er, (S.disk.read (2 + S.log + n)).2 = er := ⟨_, rfl⟩
      have e : S.read n = if er ≠ 0 then ((Arr.zero, er), { S with dead := S.dead || er == 6 }) else (LogS.pageOf n s, S) := by
        unfold LogS.read; rw [if_neg (by simp [hd]), if_neg hr, hov]
        simp only [Int.toNat_natCast]
        rw [hs, her]
      have E := Lib.hid e
      have cB : W.cell? ⟨B0, n, none⟩ = some (.bool false) := by
        rw [cell_of_row W B0 n _ _ _ H1.out.hB, hasP_get S n hnp, hov]; rfl
      have hlog := OKK.out.log4
      have hpgs := OKK.out.pages2
      have RD : Hid (∀ w', Tch [] W w' → Calls Tryz.prog 56 #[.pointer (some ⟨r, 0, none⟩), .int .i64 (2 + S.log + n)] w' fun e w'' => e = .returned (.tuple #[.agg (secA s), .int .i64 er]) ∧ Tch [] w' w'') := fun w' t' => by
        rw [← hs, ← her]; exact refRead_any (H1.out.old t').hD _
      clear e hov hr hs her
      go_enter Tryz.func31, Tryz.ntmps31
      go_upto_region 1 with ((with_reducible refine wc_alloc_arr pageT ?_); go_frame)
      rw [HW.out]
      go_upto_region 7 with fail
      have c0 := H1.out.cell 0 rfl
      have c1 := H1.out.cell 1 rfl
      have Y8 : IntKind.i64.wrap ((2 : Int) + S.log) = 2 + S.log := by simp [IntKind.wrap, IntKind.bits, IntKind.signed]; omega
      have Y10 : IntKind.i64.wrap ((2 : Int) + S.log + n) = 2 + S.log + n := by simp [IntKind.wrap, IntKind.bits, IntKind.signed]; omega
      refine wp_region_state 17 (MadeOne W (RVal g r S.log n s er) 15 16 (.cells (secA (Arr.zero : Sec)) 26) (.cells (secA s) 26)) (by kernel_rfl) (by kernel_rfl) (fun vs => ⟨(Tch.refl _ _).drew, fun j _ _ hl => (by rw [getD_replicate_false] at hl; cases hl), fun hl => (by rw [getD_replicate_false] at hl; cases hl), fun hl => (by rw [getD_replicate_false] at hl; cases hl)⟩) ?_ ?_
      · intro i o hi ho listed vs fu w' hI hsz hnl hold hdep
        have c0' := cell_old hI.tch c0
        have c1' := cell_old hI.tch c1
        have hi7 : i = 0 ∨ i = 1 ∨ i = 2 ∨ i = 3 ∨ i = 4 ∨ i = 5 ∨ i = 6 ∨ i = 7 ∨ i = 8 ∨ i = 9 ∨ i = 10 ∨ i = 11 ∨ i = 12 ∨ i = 13 ∨ i = 14 ∨ i = 15 ∨ i = 16 := by omega
        rcases hi7 with rfl | rfl | rfl | rfl | rfl | rfl | rfl | rfl | rfl | rfl | rfl | rfl | rfl | rfl | rfl | rfl | rfl
        all_goals (simp only [List.getElem?_cons_zero, List.getElem?_cons_succ, Option.some.injEq] at ho; subst ho)
        · refine step_plain rfl ?_
          have x0 : fu.tmps[0]?.getD undef = .pointer (some ⟨g, 0, none⟩) := ev_tmp (hold 0 (by show _ < 88; omega) (by kernel_rfl))
          go_simp
          exact hI.plain (Tch.refl _ _) (by decide) (by decide)
        · refine step_plain rfl ?_
          obtain ⟨l41, e41⟩ := hdep 0 41 (by show _ < 88; omega) (by kernel_rfl) (by kernel_rfl)
          have x41 : fu.tmps[41]?.getD undef = .pointer (some ⟨g, 0, none⟩) := ev_tmp (e41.trans (hI.vals 0 (by decide) (by decide) l41))
          go_simp
          exact hI.plain (Tch.refl _ _) (by decide) (by decide)
        · refine step_plain rfl ?_
          obtain ⟨l42, e42⟩ := hdep 1 42 (by show _ < 88; omega) (by kernel_rfl) (by kernel_rfl)
          have x42 : fu.tmps[42]?.getD undef = .pointer (some ⟨g, 0, none⟩) := ev_tmp (e42.trans (hI.vals 1 (by decide) (by decide) l42))
          go_simp
          exact hI.plain (Tch.refl _ _) (by decide) (by decide)
        · refine step_plain rfl ?_
          obtain ⟨l43, e43⟩ := hdep 2 43 (by show _ < 88; omega) (by kernel_rfl) (by kernel_rfl)
          have x43 : fu.tmps[43]?.getD undef = .pointer (some ⟨g, 0, none⟩) := ev_tmp (e43.trans (hI.vals 2 (by decide) (by decide) l43))
          go_simp
          exact hI.plain (Tch.refl _ _) (by decide) (by decide)
        · refine step_plain rfl ?_
          have x0 : fu.tmps[0]?.getD undef = .pointer (some ⟨g, 0, none⟩) := ev_tmp (hold 0 (by show _ < 88; omega) (by kernel_rfl))
          go_simp
          exact hI.plain (Tch.refl _ _) (by decide) (by decide)
        · refine step_plain rfl ?_
          obtain ⟨l45, e45⟩ := hdep 4 45 (by show _ < 88; omega) (by kernel_rfl) (by kernel_rfl)
          have x45 : fu.tmps[45]?.getD undef = .pointer (some ⟨g, 0, none⟩) := ev_tmp (e45.trans (hI.vals 4 (by decide) (by decide) l45))
          go_simp
          exact hI.plain (Tch.refl _ _) (by decide) (by decide)
        · refine step_plain rfl ?_
          obtain ⟨l46, e46⟩ := hdep 5 46 (by show _ < 88; omega) (by kernel_rfl) (by kernel_rfl)
          have x46 : fu.tmps[46]?.getD undef = .pointer (some ⟨g, 0, none⟩) := ev_tmp (e46.trans (hI.vals 5 (by decide) (by decide) l46))
          go_simp
          exact hI.plain (Tch.refl _ _) (by decide) (by decide)
        · refine step_plain rfl ?_
          obtain ⟨l47, e47⟩ := hdep 6 47 (by show _ < 88; omega) (by kernel_rfl) (by kernel_rfl)
          have x47 : fu.tmps[47]?.getD undef = .pointer (some ⟨g, 1, none⟩) := ev_tmp (e47.trans (hI.vals 6 (by decide) (by decide) l47))
          go_simp
          exact hI.plain (Tch.refl _ _) (by decide) (by decide)
        · refine step_plain rfl ?_
          obtain ⟨l48, e48⟩ := hdep 7 48 (by show _ < 88; omega) (by kernel_rfl) (by kernel_rfl)
          have x48 : fu.tmps[48]?.getD undef = .int .i64 S.log := ev_tmp (e48.trans (hI.vals 7 (by decide) (by decide) l48))
          go_simp
          exact hI.plain (Tch.refl _ _) (by decide) (by decide)
        · refine step_plain rfl ?_
          have x1 : fu.tmps[1]?.getD undef = .int .i64 n := ev_tmp (hold 1 (by show _ < 88; omega) (by kernel_rfl))
          go_simp
          exact hI.plain (Tch.refl _ _) (by decide) (by decide)
        · refine step_plain rfl ?_
          obtain ⟨l49, e49⟩ := hdep 8 49 (by show _ < 88; omega) (by kernel_rfl) (by kernel_rfl)
          have x49 : fu.tmps[49]?.getD undef = .int .i64 (2 + S.log) := ev_tmp (e49.trans (hI.vals 8 (by decide) (by decide) l49))
          obtain ⟨l50, e50⟩ := hdep 9 50 (by show _ < 88; omega) (by kernel_rfl) (by kernel_rfl)
          have x50 : fu.tmps[50]?.getD undef = .int .i64 n := ev_tmp (e50.trans (hI.vals 9 (by decide) (by decide) l50))
          go_simp
          exact hI.plain (Tch.refl _ _) (by decide) (by decide)
        · refine step_plain rfl ?_
          obtain ⟨l44, e44⟩ := hdep 3 44 (by show _ < 88; omega) (by kernel_rfl) (by kernel_rfl)
          have x44 : fu.tmps[44]?.getD undef = .pointer (some ⟨r, 0, none⟩) := ev_tmp (e44.trans (hI.vals 3 (by decide) (by decide) l44))
          obtain ⟨l51, e51⟩ := hdep 10 51 (by show _ < 88; omega) (by kernel_rfl) (by kernel_rfl)
          have x51 : fu.tmps[51]?.getD undef = .int .i64 (2 + S.log + n) := ev_tmp (e51.trans (hI.vals 10 (by decide) (by decide) l51))
          go_simp
          refine (RD.out _ hI.tch).mono ?_
          rintro e w5 ⟨rfl, q2⟩
          exact ⟨_, rfl, hI.plain q2 (by decide) (by decide)⟩
        · refine step_plain rfl ?_
          obtain ⟨l52, e52⟩ := hdep 11 52 (by show _ < 88; omega) (by kernel_rfl) (by kernel_rfl)
          have x52 : fu.tmps[52]?.getD undef = .tuple #[.agg (secA s), .int .i64 er] := ev_tmp (e52.trans (hI.vals 11 (by decide) (by decide) l52))
          go_simp
          exact hI.plain (Tch.refl _ _) (by decide) (by decide)
        · refine step_plain rfl ?_
          obtain ⟨l40, e40⟩ := hdep 12 40 (by show _ < 88; omega) (by kernel_rfl) (by kernel_rfl)
          have x40 : fu.tmps[40]?.getD undef = .tuple #[.agg (secA s), .int .i64 er] := ev_tmp (e40.trans (hI.vals 12 (by decide) (by decide) l40))
          go_simp
          exact hI.plain (Tch.refl _ _) (by decide) (by decide)
        · refine step_plain rfl ?_
          obtain ⟨l40, e40⟩ := hdep 12 40 (by show _ < 88; omega) (by kernel_rfl) (by kernel_rfl)
          have x40 : fu.tmps[40]?.getD undef = .tuple #[.agg (secA s), .int .i64 er] := ev_tmp (e40.trans (hI.vals 12 (by decide) (by decide) l40))
          go_simp
          exact hI.plain (Tch.refl _ _) (by decide) (by decide)
        · refine step_plain rfl ?_
          exact stpR_ok (exec_alloc_sec) (hI.alloc (by decide) hnl hsz)
        · refine step_plain rfl ?_
          obtain ⟨l6, e6⟩ := hdep 15 6 (by show _ < 88; omega) (by kernel_rfl) (by kernel_rfl)
          obtain ⟨l53, e53⟩ := hdep 13 53 (by show _ < 88; omega) (by kernel_rfl) (by kernel_rfl)
          have x53 : fu.eval (.tmp 53) = .agg (secA s) := e53.trans (hI.vals 13 (by decide) (by decide) l53)
          obtain ⟨B, hB1, hB2, hB3⟩ := hI.made l6
          rw [if_neg (by rw [hnl]; simp)] at hB3
          have hb3 : w'.heap[B]? = some (.cells (secA (Arr.zero : Sec)) 26) := hB3
          refine stpR_skip (exec_store_sec hb3 (e6.trans hB1) x53) ?_
          exact hI.store (by decide) hsz l6 hB1 hB2 ((Tch.refl _ _).setRow (.inl (by simp)) _) (setRow_heap _ _ _ _ _ _ hb3) _
      · intro vs w3 hI
        obtain ⟨B, hB1, hB2, hB3⟩ := hI.made (by kernel_rfl)
        have hB3' : w3.heap[B]? = some (.cells (secA s) 26) := by rw [if_pos (by kernel_rfl)] at hB3; exact hB3
        have x14 : vs 14 = .int .i64 er := hI.vals 14 (by decide) (by decide) (by kernel_rfl)
        have X14 := Lib.hid x14
        have X15 := Lib.hid hB1
        have S3 := Lib.hid hB3'
        have T3 := Lib.hid (TW.out.trans hI.tch)
        have L3 := Lib.hid (H1.out.old hI.tch)
        have B3 := Lib.hid (hI.tch.heap BW.out (by simp))
        clear hI hB1 hB3 hB3' x14 c0 c1
        unfold fullOf
        rw [show (List.range 17).map vs = [vs 0, vs 1, vs 2, vs 3, vs 4, vs 5, vs 6, vs 7, vs 8, vs 9, vs 10, vs 11, vs 12, vs 13, vs 14, vs 15, vs 16] from rfl, X14.out, X15.out]
        generalize vs 0 = v0
        generalize vs 1 = v1
        generalize vs 2 = v2
        generalize vs 3 = v3
        generalize vs 4 = v4
        generalize vs 5 = v5
        generalize vs 6 = v6
        generalize vs 7 = v7
        generalize vs 8 = v8
        generalize vs 9 = v9
        generalize vs 10 = v10
        generalize vs 11 = v11
        generalize vs 12 = v12
        generalize vs 13 = v13
        generalize vs 16 = v16
        clear X14 X15 vs
        simp only [List.take_succ_cons, List.take_zero, List.drop_succ_cons, List.drop_zero, putAll]
        go_frame
        by_cases hz : er = 0
        · subst hz
          rw [if_neg (by simp)] at E
          obtain ⟨f, hf⟩ : ∃ f, parse s = f := ⟨_, rfl⟩
          have hfi : f.idx < 4294967296 := by rw [← hf]; exact (parse_ok s).idx
          have NO : Hid (¬ (f.sector = s ∧ f.kind = 5 ∧ f.num = 0 ∧ f.idx = n) → LogS.pageOf n s = (Arr.zero, 81)) := fun hn => by unfold LogS.pageOf; rw [hf, if_neg hn]
          have YES : Hid ((f.sector = s ∧ f.kind = 5 ∧ f.num = 0 ∧ f.idx = n) → LogS.pageOf n s = (f.page, 0)) := fun hn => by unfold LogS.pageOf; rw [hf, if_pos hn]
          have HF := Lib.hid hf
          obtain ⟨ob, hob⟩ : ∃ ob, decide (f.sector = s) = ob := ⟨_, rfl⟩
          have HOB := Lib.hid hob
          have W3k := convU32 n (by omega)
          clear hf hob
          go_upto_region 11 with (first | ((with_reducible apply wc_load_var secT S3.out); exact rfl; go_frame) | (go_at_call 57; refine (rread_any s _).mono ?_; rintro e w4 ⟨rfl, q1⟩; rw [HF.out, HOB.out]; have T4 := Lib.hid q1; clear q1) | ((with_reducible refine wc_alloc_frame rframeTT ?_); go_frame) | ((with_reducible apply wc_store_frame rframeTT (heap_alloc_new w4 (.cells (frameA FrameV.zero) 75)) (g := f)); exact rfl; exact rfl; go_frame; rw [setRow_alloc_new]))
          obtain ⟨F, hF⟩ : ∃ F, w4.heap.size = F := ⟨_, rfl⟩
          obtain ⟨w6, hw6⟩ : ∃ w6, w4.alloc (.cells (frameA f) 75) = w6 := ⟨_, rfl⟩
          have b6 : w6.heap[F]? = some (.cells (frameA f) 75) := by rw [← hw6, ← hF]; exact heap_alloc_new _ _
          have t36 : Tch [] w3 w6 := by rw [← hw6]; exact T4.out.alloc _
          have T6 := Lib.hid (T3.out.trans t36)
          have L6 := Lib.hid (L3.out.old t36)
          have BR := Lib.hid (t36.heap B3.out (by simp))
          have BF := Lib.hid b6
          have k0 := (frame_cell b6).1
          have k2 := (frame_cell b6).2.2.1
          have k3 := (frame_cell b6).2.2.2
          rw [hF, hw6]
          clear hF hw6 b6 t36
          by_cases p1 : ob = true
          rotate_left
          · have E2 : Hid (LogS.pageOf n s = (Arr.zero, 81)) := NO.out (fun hh => p1 (by rw [← HOB.out, decide_eq_true hh.1]))
            rw [E2.out] at E
            have pb : ob = false := by simpa using p1
            subst pb
            clear p1
            go_wp2_with (first | ((with_reducible apply wc_build_arr pageT); exact rfl; go_frame) | ((with_reducible apply wc_store_var pageT BR.out); exact rfl; exact rfl; go_frame))
            refine bodyPost_ret (res_cell_tmp pageT.agg rfl _ rfl (setRow_heap _ _ _ _ _ _ BR.out) (size_secA _)) rfl ?_
            rw [E.out]
            exact ⟨rfl, FIN.out _ _ L6.out (T6.out.mono (by simp)) _⟩
          subst p1
          by_cases p2 : f.kind = 5
          rotate_left
          · have E2 : Hid (LogS.pageOf n s = (Arr.zero, 81)) := NO.out (fun hh => p2 hh.2.1)
            rw [E2.out] at E
            have pb : ((f.kind.toNat : Int) != 5) = true := by
              simp only [bne_iff_ne, ne_eq]
              intro e
              exact p2 (UInt8.toNat_inj.1 (by show f.kind.toNat = 5; omega))
            clear p2
            go_wp2_with (first | ((with_reducible apply wc_build_arr pageT); exact rfl; go_frame) | ((with_reducible apply wc_store_var pageT BR.out); exact rfl; exact rfl; go_frame))
            refine bodyPost_ret (res_cell_tmp pageT.agg rfl _ rfl (setRow_heap _ _ _ _ _ _ BR.out) (size_secA _)) rfl ?_
            rw [E.out]
            exact ⟨rfl, FIN.out _ _ L6.out (T6.out.mono (by simp)) _⟩
          have p2' : ((f.kind.toNat : Int) != 5) = false := by rw [p2]; rfl
          have P2 := Lib.hid p2
          clear p2
          by_cases p3 : f.num = 0
          rotate_left
          · have E2 : Hid (LogS.pageOf n s = (Arr.zero, 81)) := NO.out (fun hh => p3 hh.2.2.1)
            rw [E2.out] at E
            have pb : ((f.num : Int) != 0) = true := by simp; omega
            clear p3
            go_wp2_with (first | ((with_reducible apply wc_build_arr pageT); exact rfl; go_frame) | ((with_reducible apply wc_store_var pageT BR.out); exact rfl; exact rfl; go_frame))
            refine bodyPost_ret (res_cell_tmp pageT.agg rfl _ rfl (setRow_heap _ _ _ _ _ _ BR.out) (size_secA _)) rfl ?_
            rw [E.out]
            exact ⟨rfl, FIN.out _ _ L6.out (T6.out.mono (by simp)) _⟩
          have p3' : ((f.num : Int) != 0) = false := by simp; omega
          have P3 := Lib.hid p3
          clear p3
          by_cases p4 : f.idx = n
          rotate_left
          · have E2 : Hid (LogS.pageOf n s = (Arr.zero, 81)) := NO.out (fun hh => p4 hh.2.2.2)
            rw [E2.out] at E
            have pb : ((f.idx : Int) != n) = true := by simp; omega
            clear p4
            go_wp2_with (first | ((with_reducible apply wc_build_arr pageT); exact rfl; go_frame) | ((with_reducible apply wc_store_var pageT BR.out); exact rfl; exact rfl; go_frame))
            refine bodyPost_ret (res_cell_tmp pageT.agg rfl _ rfl (setRow_heap _ _ _ _ _ _ BR.out) (size_secA _)) rfl ?_
            rw [E.out]
            exact ⟨rfl, FIN.out _ _ L6.out (T6.out.mono (by simp)) _⟩
          have p4' : ((f.idx : Int) != n) = false := by simp; omega
          have E2 : Hid (LogS.pageOf n s = (f.page, 0)) := YES.out ⟨of_decide_eq_true HOB.out, P2.out, P3.out, p4⟩
          rw [E2.out] at E
          clear p4
          go_wp2_with (first | ((with_reducible apply wc_load_framepage pageT.agg BF.out); exact rfl; go_frame) | ((with_reducible apply wc_store_var pageT BR.out); exact rfl; exact rfl; go_frame))
          refine bodyPost_ret (res_cell_tmp pageT.agg rfl _ rfl (setRow_heap _ _ _ _ _ _ BR.out) (size_secA _)) rfl ?_
          rw [E.out]
          exact ⟨rfl, FIN.out _ _ L6.out (T6.out.mono (by simp)) _⟩
        · rw [if_pos hz] at E
          have hz' : (er != 0) = true := by simp [hz]
          go_wp2_with (first | ((with_reducible apply wc_build_arr pageT); exact rfl; go_frame) | (go_at_call 63; refine (rtold_any L3.out er).mono ?_; rintro e w5 ⟨rfl, q1, q2⟩; have L5 := Lib.hid q1; have T5 := Lib.hid ((T3.out.mono (by simp)).trans q2); have BR := Lib.hid (q2.heap B3.out (by simp; omega)); clear q1 q2) | ((with_reducible apply wc_store_var pageT BR.out); exact rfl; exact rfl; go_frame))
          refine bodyPost_ret (res_cell_tmp pageT.agg rfl _ rfl (setRow_heap _ _ _ _ _ _ BR.out) (size_secA _)) rfl ?_
          rw [E.out]
          exact ⟨rfl, FIN.out _ _ L5.out T5.out _⟩
end Go.Proofs.YthbaipljlbddcaaGreat
/-
  A sector as it is laid: ciboriumlaw08's Raw.Sector: some sector; nothing else is touched.
-/
namespace Go.Cib
open Go Go.RowKit
structure RawV where
  kind : UInt8
  gen : Nat
  num : Nat
  idx : Nat
  na : Option Addr
  nums : List Int
  ncap : Nat
  text : ByteArray
  at_ : Int
  turn : UInt8
def RawV.cells (v : RawV) : Array Value := #[.int .u8 v.kind.toNat, .int .u64 v.gen, .int .u64 v.num, .int .u32 v.idx, .slice v.na v.nums.length v.ncap, .string v.text, .int .i64 v.at_, .int .u8 v.turn.toNat]
section
variable {P : Program} {T e : TypeId} {ops : Array Oper} {rest : List Oper} {a : Act} {w : World} {Q : Exit → Act → World → Prop} {dst : Option Tmp} {ty : TypeId} {pos : String} {af : Array Edge} {x y : Operand}
/-- A page is stored into a frame. -/
theorem wc_store_framepage (hT : AggT P T 480) {b : Nat} {f : FrameV} {p : Page} (hb : w.heap[b]? = some (.cells (frameA f) e)) (hx : a.eval x = .pointer (some ⟨b, 4, none⟩)) (hy : a.eval y = .agg (secA p))
    (h : ∀ w', w'.heap[b]? = some (.cells (frameA { f with page := p }) e) → Tch [b] w w' → wpList P ops Q rest (a.put dst undef) w') : wpList P ops Q (⟨dst, .store T x y, ty, pos, af, none⟩ :: rest) a w := by
  refine wc_done rfl (exec_store_agg hT rfl hx hy (size_secA p) (secA_one p) hb (by rw [size_frameA]; omega)) ?_
  rw [spl_page]
  exact h _ (setRow_heap _ _ _ _ _ _ hb) ((Tch.refl _ _).setRow (.inl (by simp)) _)
end
end Go.Cib
namespace Go.Proofs.YthbaipljlbddcaaGreat
open Go.RowKit Go.Cib
structure RawOk (w : World) (v : RawV) : Prop where
  gen : v.gen < 18446744073709551616
  num : v.num < 18446744073709551616
  idx : v.idx < 4294967296
  nums : IntsAt w v.na v.nums
  len : v.nums.length ≤ 9223372036854775807
  text : v.text.size ≤ 9223372036854775807
theorem RawOk.old {w w' : World} {v : RawV} (h : RawOk w v) (ht : Tch [] w w') : RawOk w' v := ⟨h.gen, h.num, h.idx, ints_old h.nums ht, h.len, h.text⟩
def RawVal (B : Nat) (v : RawV) (pg : Page) (f0 : FrameV) : Nat → Value
  | 0 => .pointer (some ⟨B, 0, none⟩)
  | 1 => .int .u8 v.kind.toNat
  | 2 => .pointer (some ⟨B, 1, none⟩)
  | 3 => .int .u64 v.gen
  | 4 => .pointer (some ⟨B, 2, none⟩)
  | 5 => .int .u64 v.num
  | 6 => .pointer (some ⟨B, 3, none⟩)
  | 7 => .int .u32 v.idx
  | 8 => .pointer (some ⟨B, 5, none⟩)
  | 9 => .string v.text
  | 10 => .agg (secA pg)
  | _ => .agg (frameA f0)

set_option maxRecDepth 20000 in
set_option maxHeartbeats 4000000 in
theorem rawSec_any {w : World} (v : RawV) (ok : RawOk w v) : Calls Tryz.prog 5 #[.agg v.cells] w fun e w' => (∃ s : Sec, e = .returned (.agg (secA s))) ∧ Tch [] w w' := by
  have HV : Hid (v.cells = #[.int .u8 v.kind.toNat, .int .u64 v.gen, .int .u64 v.num, .int .u32 v.idx, .slice v.na v.nums.length v.ncap, .string v.text, .int .i64 v.at_, .int .u8 v.turn.toNat]) := rfl
  have OKK := Lib.hid ok
  clear ok
  go_enter Tryz.func5, Tryz.ntmps5
  go_upto_region 1 with (first | ((with_reducible refine wc_box_agg ?_ ?_); exact rfl; go_frame) | ((with_reducible refine wc_alloc_arr secT ?_); go_frame; (try simp only [World.size_alloc])))
  have ta : Tch [] w (w.alloc (.cells v.cells 31)) := (Tch.refl _ _).alloc _
  have ha : (w.alloc (.cells v.cells 31)).heap[w.heap.size]? = some (.cells v.cells 31) := heap_alloc_new _ _
  have za : (w.alloc (.cells v.cells 31)).heap.size = w.heap.size + 1 := World.size_alloc _ _
  generalize w.alloc (.cells v.cells 31) = wa at *
  have tb : Tch [] wa (wa.alloc (.cells (secA (Arr.zero : Sec)) 26)) := (Tch.refl _ _).alloc _
  have hb : (wa.alloc (.cells (secA (Arr.zero : Sec)) 26)).heap[wa.heap.size]? = some (.cells (secA (Arr.zero : Sec)) 26) := heap_alloc_new _ _
  have zb : (wa.alloc (.cells (secA (Arr.zero : Sec)) 26)).heap.size = wa.heap.size + 1 := World.size_alloc _ _
  generalize wa.alloc (.cells (secA (Arr.zero : Sec)) 26) = w1 at *
  have VB := Lib.hid (tb.heap ha (by simp))
  rw [za] at hb zb
  have RB := Lib.hid hb
  have T1 := Lib.hid (ta.trans tb)
  have Z1 := Lib.hid zb
  clear ta tb ha hb za zb wa
  obtain ⟨B, hB⟩ : ∃ B, w.heap.size = B := ⟨_, rfl⟩
  rw [hB] at VB RB Z1 ⊢
  have HW : Hid (w.heap.size = B) := hB
  clear hB
  have VC : Hid (∀ w' : World, w'.heap[B]? = some (.cells v.cells 31) → w'.cell? ⟨B, 0, none⟩ = some (.int .u8 v.kind.toNat) ∧ w'.cell? ⟨B, 1, none⟩ = some (.int .u64 v.gen) ∧ w'.cell? ⟨B, 2, none⟩ = some (.int .u64 v.num) ∧ w'.cell? ⟨B, 3, none⟩ = some (.int .u32 v.idx) ∧
      w'.cell? ⟨B, 4, none⟩ = some (.slice v.na v.nums.length v.ncap) ∧ w'.cell? ⟨B, 5, none⟩ = some (.string v.text) ∧ w'.cell? ⟨B, 6, none⟩ = some (.int .i64 v.at_) ∧ w'.cell? ⟨B, 7, none⟩ = some (.int .u8 v.turn.toNat)) := fun w' h => by
    refine ⟨?_, ?_, ?_, ?_, ?_, ?_, ?_, ?_⟩
    all_goals (rw [cell_of_row w' B _ _ _ _ h]; rfl)
  obtain ⟨pg, hpg⟩ : ∃ pg : Page, Arr.text v.text.data.toList = pg := ⟨_, rfl⟩
  obtain ⟨f0, hf0⟩ : ∃ f0 : FrameV, (⟨v.kind, v.gen, v.num, v.idx, pg⟩ : FrameV) = f0 := ⟨_, rfl⟩
  have hfok : f0.Ok := by rw [← hf0]; exact ⟨OKK.out.gen, OKK.out.num, OKK.out.idx⟩
  have CT : Hid (∀ w', Calls Tryz.prog 16 #[.string v.text] w' fun e w'' => e = .returned (.agg (secA pg)) ∧ Tch [] w' w'') := fun w' => by rw [← hpg]; exact ptext_any v.text w' OKK.out.text
  have FILL : Hid (fillF FrameV.zero [(0, .int .u8 v.kind.toNat), (1, .int .u64 v.gen), (2, .int .u64 v.num), (3, .int .u32 v.idx), (4, .agg (secA pg))] = some (frameA f0)) := by
    show fillF FrameV.zero [(0, .int .u8 v.kind.toNat), (1, .int .u64 v.gen), (2, .int .u64 v.num), (3, .int .u32 v.idx), (4, .agg (secA pg))] = _
    rw [fillF_kind, fillF_gen, fillF_num, fillF_idx, fillF_page, fillF_nil, ← hf0]
  have FOK := Lib.hid hfok
  obtain ⟨c0, c1, c2, c3, _, c5, _, _⟩ := VC.out _ VB.out
  clear hpg hf0 hfok HV
  refine wp_region_state 14 (MadeOne w1 (RawVal B v pg f0) 12 13 (.cells (frameA FrameV.zero) 75) (.cells (frameA f0) 75)) (by kernel_rfl) (by kernel_rfl) (fun vs => ⟨(Tch.refl _ _).drew, fun j _ _ hl => (by rw [getD_replicate_false] at hl; cases hl), fun hl => (by rw [getD_replicate_false] at hl; cases hl), fun hl => (by rw [getD_replicate_false] at hl; cases hl)⟩) ?_ ?_
  · intro i o hi ho listed vs fu w' hI hsz hnl hold hdep
    have d0 := cell_old hI.tch c0
    have d1 := cell_old hI.tch c1
    have d2 := cell_old hI.tch c2
    have d3 := cell_old hI.tch c3
    have d5 := cell_old hI.tch c5
    have hi7 : i = 0 ∨ i = 1 ∨ i = 2 ∨ i = 3 ∨ i = 4 ∨ i = 5 ∨ i = 6 ∨ i = 7 ∨ i = 8 ∨ i = 9 ∨ i = 10 ∨ i = 11 ∨ i = 12 ∨ i = 13 := by omega
    rcases hi7 with rfl | rfl | rfl | rfl | rfl | rfl | rfl | rfl | rfl | rfl | rfl | rfl | rfl | rfl
    all_goals (simp only [List.getElem?_cons_zero, List.getElem?_cons_succ, Option.some.injEq] at ho; subst ho)
    · refine step_plain rfl ?_
      have x1 : fu.tmps[1]?.getD undef = .pointer (some ⟨B, 0, none⟩) := ev_tmp (hold 1 (by show _ < 52; omega) (by kernel_rfl))
      go_simp
      exact hI.plain (Tch.refl _ _) (by decide) (by decide)
    · refine step_plain rfl ?_
      obtain ⟨l5, e5⟩ := hdep 0 5 (by show _ < 52; omega) (by kernel_rfl) (by kernel_rfl)
      have x5 : fu.tmps[5]?.getD undef = .pointer (some ⟨B, 0, none⟩) := ev_tmp (e5.trans (hI.vals 0 (by decide) (by decide) l5))
      go_simp
      exact hI.plain (Tch.refl _ _) (by decide) (by decide)
    · refine step_plain rfl ?_
      have x1 : fu.tmps[1]?.getD undef = .pointer (some ⟨B, 0, none⟩) := ev_tmp (hold 1 (by show _ < 52; omega) (by kernel_rfl))
      go_simp
      exact hI.plain (Tch.refl _ _) (by decide) (by decide)
    · refine step_plain rfl ?_
      obtain ⟨l7, e7⟩ := hdep 2 7 (by show _ < 52; omega) (by kernel_rfl) (by kernel_rfl)
      have x7 : fu.tmps[7]?.getD undef = .pointer (some ⟨B, 1, none⟩) := ev_tmp (e7.trans (hI.vals 2 (by decide) (by decide) l7))
      go_simp
      exact hI.plain (Tch.refl _ _) (by decide) (by decide)
    · refine step_plain rfl ?_
      have x1 : fu.tmps[1]?.getD undef = .pointer (some ⟨B, 0, none⟩) := ev_tmp (hold 1 (by show _ < 52; omega) (by kernel_rfl))
      go_simp
      exact hI.plain (Tch.refl _ _) (by decide) (by decide)
    · refine step_plain rfl ?_
      obtain ⟨l9, e9⟩ := hdep 4 9 (by show _ < 52; omega) (by kernel_rfl) (by kernel_rfl)
      have x9 : fu.tmps[9]?.getD undef = .pointer (some ⟨B, 2, none⟩) := ev_tmp (e9.trans (hI.vals 4 (by decide) (by decide) l9))
      go_simp
      exact hI.plain (Tch.refl _ _) (by decide) (by decide)
    · refine step_plain rfl ?_
      have x1 : fu.tmps[1]?.getD undef = .pointer (some ⟨B, 0, none⟩) := ev_tmp (hold 1 (by show _ < 52; omega) (by kernel_rfl))
      go_simp
      exact hI.plain (Tch.refl _ _) (by decide) (by decide)
    · refine step_plain rfl ?_
      obtain ⟨l11, e11⟩ := hdep 6 11 (by show _ < 52; omega) (by kernel_rfl) (by kernel_rfl)
      have x11 : fu.tmps[11]?.getD undef = .pointer (some ⟨B, 3, none⟩) := ev_tmp (e11.trans (hI.vals 6 (by decide) (by decide) l11))
      go_simp
      exact hI.plain (Tch.refl _ _) (by decide) (by decide)
    · refine step_plain rfl ?_
      have x1 : fu.tmps[1]?.getD undef = .pointer (some ⟨B, 0, none⟩) := ev_tmp (hold 1 (by show _ < 52; omega) (by kernel_rfl))
      go_simp
      exact hI.plain (Tch.refl _ _) (by decide) (by decide)
    · refine step_plain rfl ?_
      obtain ⟨l13, e13⟩ := hdep 8 13 (by show _ < 52; omega) (by kernel_rfl) (by kernel_rfl)
      have x13 : fu.tmps[13]?.getD undef = .pointer (some ⟨B, 5, none⟩) := ev_tmp (e13.trans (hI.vals 8 (by decide) (by decide) l13))
      go_simp
      exact hI.plain (Tch.refl _ _) (by decide) (by decide)
    · refine step_plain rfl ?_
      obtain ⟨l14, e14⟩ := hdep 9 14 (by show _ < 52; omega) (by kernel_rfl) (by kernel_rfl)
      have x14 : fu.tmps[14]?.getD undef = .string v.text := ev_tmp (e14.trans (hI.vals 9 (by decide) (by decide) l14))
      go_simp
      refine (CT.out _).mono ?_
      rintro e w5 ⟨rfl, q2⟩
      exact ⟨_, rfl, hI.plain q2 (by decide) (by decide)⟩
    · refine step_plain rfl ?_
      obtain ⟨l10, e10⟩ := hdep 5 10 (by show _ < 52; omega) (by kernel_rfl) (by kernel_rfl)
      have x10 : fu.tmps[10]?.getD undef = .int .u64 v.num := ev_tmp (e10.trans (hI.vals 5 (by decide) (by decide) l10))
      obtain ⟨l12, e12⟩ := hdep 7 12 (by show _ < 52; omega) (by kernel_rfl) (by kernel_rfl)
      have x12 : fu.tmps[12]?.getD undef = .int .u32 v.idx := ev_tmp (e12.trans (hI.vals 7 (by decide) (by decide) l12))
      obtain ⟨l15, e15⟩ := hdep 10 15 (by show _ < 52; omega) (by kernel_rfl) (by kernel_rfl)
      have x15 : fu.tmps[15]?.getD undef = .agg (secA pg) := ev_tmp (e15.trans (hI.vals 10 (by decide) (by decide) l15))
      obtain ⟨l6, e6⟩ := hdep 1 6 (by show _ < 52; omega) (by kernel_rfl) (by kernel_rfl)
      have x6 : fu.tmps[6]?.getD undef = .int .u8 v.kind.toNat := ev_tmp (e6.trans (hI.vals 1 (by decide) (by decide) l6))
      obtain ⟨l8, e8⟩ := hdep 3 8 (by show _ < 52; omega) (by kernel_rfl) (by kernel_rfl)
      have x8 : fu.tmps[8]?.getD undef = .int .u64 v.gen := ev_tmp (e8.trans (hI.vals 3 (by decide) (by decide) l8))
      have y6 : fu.eval (.tmp 6) = _ := e6.trans (hI.vals 1 (by decide) (by decide) l6)
      have y8 : fu.eval (.tmp 8) = _ := e8.trans (hI.vals 3 (by decide) (by decide) l8)
      have y10 : fu.eval (.tmp 10) = _ := e10.trans (hI.vals 5 (by decide) (by decide) l10)
      have y12 : fu.eval (.tmp 12) = _ := e12.trans (hI.vals 7 (by decide) (by decide) l12)
      have y15 : fu.eval (.tmp 15) = _ := e15.trans (hI.vals 10 (by decide) (by decide) l15)
      refine stpR_ok (exec_build_rf FILL.out ?_) (hI.plain (Tch.refl _ _) (by decide) (by decide))
      simp only [List.map_cons, List.map_nil, y6, y8, y10, y12, y15]
      rfl
    · refine step_plain rfl ?_
      exact stpR_ok (exec_alloc_frame rframeTT) (hI.alloc (by decide) hnl hsz)
    · refine step_plain rfl ?_
      obtain ⟨l3, e3⟩ := hdep 12 3 (by show _ < 52; omega) (by kernel_rfl) (by kernel_rfl)
      obtain ⟨l16, e16⟩ := hdep 11 16 (by show _ < 52; omega) (by kernel_rfl) (by kernel_rfl)
      have x16 : fu.eval (.tmp 16) = .agg (frameA f0) := e16.trans (hI.vals 11 (by decide) (by decide) l16)
      obtain ⟨F, hB1, hB2, hB3⟩ := hI.made l3
      rw [if_neg (by rw [hnl]; simp)] at hB3
      have hb3 : w'.heap[F]? = some (.cells (frameA FrameV.zero) 75) := hB3
      refine stpR_skip (exec_store_frame (g := f0) rframeTT rfl hb3 (e3.trans hB1) x16) ?_
      exact hI.store (by decide) hsz l3 hB1 hB2 ((Tch.refl _ _).setRow (.inl (by simp)) _) (setRow_heap _ _ _ _ _ _ hb3) _
  · intro vs w3 hI
    obtain ⟨F, hF1, hF2, hF3⟩ := hI.made (by kernel_rfl)
    rw [if_pos (by kernel_rfl)] at hF3
    have t3 := hI.tch
    have X12 := Lib.hid hF1
    have FB := Lib.hid hF3
    have V3 := Lib.hid (t3.heap VB.out (by simp))
    have R3 := Lib.hid (t3.heap RB.out (by simp))
    have HBF : Hid (B + 1 < F) := by have := Z1.out; show _ < _; omega
    have T3 := Lib.hid (T1.out.trans (t3.mono (by simp)))
    have HWF : Hid (w.heap.size ≤ F) := by have := HW.out; have := HBF.out; show _ ≤ _; omega
    clear hI hF1 hF2 hF3 t3 VB RB T1 Z1 FILL CT c0 c1 c2 c3 c5
    unfold fullOf
    rw [show (List.range 14).map vs = [vs 0, vs 1, vs 2, vs 3, vs 4, vs 5, vs 6, vs 7, vs 8, vs 9, vs 10, vs 11, vs 12, vs 13] from rfl, X12.out]
    generalize vs 0 = v0
    generalize vs 1 = v1
    generalize vs 2 = v2
    generalize vs 3 = v3
    generalize vs 4 = v4
    generalize vs 5 = v5
    generalize vs 6 = v6
    generalize vs 7 = v7
    generalize vs 8 = v8
    generalize vs 9 = v9
    generalize vs 10 = v10
    generalize vs 11 = v11
    generalize vs 13 = v13
    clear X12 vs
    simp only [List.take_succ_cons, List.take_zero, List.drop_succ_cons, List.drop_zero, putAll]
    go_frame
    obtain ⟨_, _, _, _, c4, _, _, _⟩ := VC.out _ V3.out
    go_upto_if 20 with fail
    go_cut [] from 20 to 24 (fun wx => ∃ f : FrameV, f.Ok ∧ wx.heap[F]? = some (.cells (frameA f) 75) ∧ Tch [F] w3 wx)
    case first =>
      by_cases hn : 0 < v.nums.length
      · have hn' : (0 : Int) < v.nums.length := by omega
        have CN := Lib.hid (rnumbers_any (cap := v.ncap) (ints_old OKK.out.nums T3.out) OKK.out.len)
        go_wp2_with (first | (go_at_call 21; refine CN.out.mono ?_; rintro e w4 ⟨rfl, q1⟩; have T4 := Lib.hid q1; have F4 := Lib.hid (q1.heap FB.out (by simp)); clear q1) | ((with_reducible refine wc_store_framepage pageT.agg F4.out (p := numsPage (num32s v.nums)) ?_ ?_ (fun w5 h5 t5 => ?_)); exact rfl; exact rfl; have F5 := Lib.hid h5; have T5 := Lib.hid ((T4.out.mono (by simp)).trans t5); clear h5 t5; go_frame))
        go_meet
        exact ⟨{ f0 with page := numsPage (num32s v.nums) }, ⟨FOK.out.gen, FOK.out.num, FOK.out.idx⟩, F5.out, T5.out⟩
      · have hn' : ¬ (0 : Int) < v.nums.length := by omega
        go_wp2_with fail
        go_meet
        exact ⟨_, FOK.out, FB.out, Tch.refl _ _⟩
    case rest =>
    obtain ⟨f, hfo, hfb, hft⟩ := hcut
    have FOK := Lib.hid hfo
    have F4 := Lib.hid hfb
    have V4 := Lib.hid (hft.heap V3.out (by have := HBF.out; simp; omega))
    have R4 := Lib.hid (hft.heap R3.out (by have := HBF.out; simp; omega))
    have T4 := Lib.hid (tch_own T3.out hft (by have := HWF.out; simp; omega))
    clear hfo hfb hft FB V3 R3 T3 c4
    go_upto_region 5 with (first | ((with_reducible refine wc_load_frame rframeTT F4.out ?_ ?_); exact rfl; go_frame) | (go_at_call 22; refine (rsector_any f FOK.out wc).mono ?_; rintro e w5 ⟨rfl, q1⟩; have T5 := Lib.hid (T4.out.trans q1); have V5 := Lib.hid (q1.heap V4.out (by simp)); have R5 := Lib.hid (q1.heap R4.out (by simp)); clear q1) | ((with_reducible refine wc_alloc_arr secT ?_); go_frame; (try simp only [World.size_alloc])) | ((with_reducible apply wc_store_new secT); exact rfl; exact rfl; go_frame))
    obtain ⟨w6, hw6⟩ : ∃ w6, w5.alloc (.cells (secA f.sector) 26) = w6 := ⟨_, rfl⟩
    have t6 : Tch [] w5 w6 := by rw [← hw6]; exact (Tch.refl _ _).alloc _
    have b6 : w6.heap[w5.heap.size]? = some (.cells (secA f.sector) 26) := by rw [← hw6]; exact heap_alloc_new _ _
    rw [hw6]
    obtain ⟨X, hX⟩ : ∃ X, w5.heap.size = X := ⟨_, rfl⟩
    rw [hX] at b6 ⊢
    have HX : Hid (w.heap.size ≤ X ∧ B + 1 < X) := by
      have h1 := T5.out.size
      have h2 := lt_of_heap R5.out
      show _ ∧ _
      omega
    have T6 := Lib.hid (T5.out.trans t6)
    have V6 := Lib.hid (t6.heap V5.out (by simp))
    have R6 := Lib.hid (t6.heap R5.out (by simp))
    have B6 := Lib.hid b6
    clear hw6 t6 b6 hX T5 V5 R5 T4 V4 R4 F4
    obtain ⟨c0, _, _, _, _, c5, _, _⟩ := VC.out _ V6.out
    go_upto_if 29 with fail
    go_cut [] from 29 to 32 (fun wx => ∃ s : Sec, wx.heap[X]? = some (.cells (secA s) 26) ∧ Tch [X] w6 wx)
    case first =>
      by_cases hk : v.kind = 0
      · have hk' : ((v.kind.toNat : Int) == 0) = true := by rw [hk]; rfl
        clear hk
        go_wp2_with (first | (go_at_call 23; refine (text_any v.text _ OKK.out.text).mono ?_; rintro e w7 ⟨rfl, q1⟩; have T7 := Lib.hid q1; have B7 := Lib.hid (q1.heap B6.out (by simp)); clear q1) | ((with_reducible apply wc_store_var secT B7.out); exact rfl; exact rfl; go_frame))
        go_meet
        exact ⟨_, setRow_heap _ _ _ _ _ _ B7.out, (T7.out.mono (by simp)).trans ((Tch.refl _ _).setRow (.inl (by simp)) _)⟩
      · have hk' : ((v.kind.toNat : Int) == 0) = false := by
          simp only [beq_eq_false_iff_ne, ne_eq]
          intro e
          exact hk (UInt8.toNat_inj.1 (by show v.kind.toNat = 0; omega))
        clear hk
        go_wp2_with fail
        go_meet
        exact ⟨_, B6.out, Tch.refl _ _⟩
    case rest =>
    obtain ⟨s, hsb, hst⟩ := hcut
    have B7 := Lib.hid hsb
    have V7 := Lib.hid (hst.heap V6.out (by have := HX.out; simp; omega))
    have R7 := Lib.hid (hst.heap R6.out (by have := HX.out; simp; omega))
    have T7 := Lib.hid (tch_own T6.out hst (by have := HX.out; simp; omega))
    clear hsb hst B6 V6 R6 T6 c0 c5
    obtain ⟨_, _, _, _, _, _, c6, c7⟩ := VC.out _ V7.out
    go_upto_region 7 with fail
    go_cut [40] from 33 to 40 (fun q wx => q = .bool (decide (0 ≤ v.at_ ∧ v.at_ < 512)) ∧ wx = wc)
    case first =>
      by_cases h0 : 0 ≤ v.at_
      · by_cases h1 : v.at_ < 512
        · have hd : decide (0 ≤ v.at_ ∧ v.at_ < 512) = true := by simp [h0, h1]
          have HDD := Lib.hid hd
          clear hd
          go_wp2_with fail
          go_meet
          exact ⟨by rw [HDD.out], rfl⟩
        · have hd : decide (0 ≤ v.at_ ∧ v.at_ < 512) = false := by simp [h1]
          have HDD := Lib.hid hd
          clear hd
          go_wp2_with fail
          go_meet
          exact ⟨by rw [HDD.out], rfl⟩
      · have hd : decide (0 ≤ v.at_ ∧ v.at_ < 512) = false := by simp [h0]
        have HDD := Lib.hid hd
        clear hd
        go_wp2_with fail
        go_meet
        exact ⟨by rw [HDD.out], rfl⟩
    case rest =>
    obtain ⟨rfl, rfl⟩ := hcut
    go_upto_if 40 with fail
    go_cut [] from 40 to 50 (fun wx => ∃ s : Sec, wx.heap[X]? = some (.cells (secA s) 26) ∧ Tch [X] wc wx)
    case first =>
      by_cases hin : 0 ≤ v.at_ ∧ v.at_ < 512
      · rw [decide_eq_true hin]
        obtain ⟨h0, h1⟩ := hin
        obtain ⟨n, hn⟩ := Int.eq_ofNat_of_zero_le h0
        have hn5 : n < 512 := by omega
        rw [hn] at c6
        have hn0 : (0 : Int) ≤ (n : Int) := by omega
        have hn6 : (n : Int) < 512 := by omega
        have cX : wc.cell? ⟨X, n, none⟩ = some (.int .u8 (s.l.getD n 0).toNat) := by
          rw [cell_of_row wc X n _ _ _ B7.out, secA, bytesA_get, List.getD_eq_getElem?_getD, List.getElem?_eq_getElem (by rw [Arr.h]; omega)]; rfl
        obtain ⟨u, hu⟩ : ∃ u, s.l.getD n 0 = u := ⟨_, rfl⟩
        rw [hu] at cX
        have hul := u.toNat_lt
        have htl := v.turn.toNat_lt
        have hx : bits BinOp.xor IntKind.u8 ((u.toNat : Nat) : Int) ((v.turn.toNat : Nat) : Int) = ((u ^^^ v.turn).toNat : Int) := by
          rw [u8_xor_nat u.toNat v.turn.toNat hul htl, UInt8.toNat_xor]
        have HX2 := Lib.hid hx
        have HN := Lib.hid hn
        clear h0 h1 hn hu hx
        go_upto_region 8 with fail
        (refine wp_region_walk (C := fun w' => ∃ n, w' = World.drewN wc n) 10 (by kernel_rfl) (by kernel_rfl) ⟨1, rfl⟩ ?_; simp only [List.take_succ_cons, List.take_zero, List.drop_succ_cons, List.drop_zero]; (repeat (first | fail | go_big_quiet_step (fail))); refine wpQuiet_nil ?_; intro _ hw'; obtain ⟨nq, hw''⟩ := hw'; subst hw'')
        have B8 := Lib.hid ((tch_drewN wc nq).heap B7.out (by simp))
        rw [HX2.out]
        refine wc_store_byte byte1 (show (wc.drewN nq).heap[X]? = some (.cells (bytesA s.l) 26) from B8.out) (i := n) (u := u ^^^ v.turn) (by rw [s.h]; omega) rfl rfl (fun w9 h9 t9 => ?_)
        have H9 := Lib.hid h9
        have T9 := Lib.hid (((tch_drewN wc nq).mono (by simp)).trans t9)
        clear h9 t9
        go_frame
        go_wp2_with fail
        go_meet
        exact ⟨⟨s.l.set n (u ^^^ v.turn), by rw [List.length_set]; exact s.h⟩, H9.out, T9.out⟩
      · rw [decide_eq_false hin]
        clear hin
        go_wp2_with fail
        go_meet
        exact ⟨_, B7.out, Tch.refl _ _⟩
    case rest =>
    obtain ⟨s2, hsb, hst⟩ := hcut
    have B8 := Lib.hid hsb
    have R8 := Lib.hid (hst.heap R7.out (by have := HX.out; simp; omega))
    have T8 := Lib.hid (tch_own T7.out hst (by have := HX.out; simp; omega))
    clear hsb hst B7 R7 V7 T7 c6 c7
    go_wp2_with (first | ((with_reducible apply wc_load_var secT B8.out); exact rfl; go_frame) | ((with_reducible apply wc_store_var secT R8.out); exact rfl; exact rfl; go_frame))
    refine bodyPost_ret (res_cell secT.agg rfl _ rfl (setRow_heap _ _ _ _ _ _ R8.out) (size_secA _)) rfl ?_
    refine ⟨⟨_, rfl⟩, T8.out.setRow (.inr ?_) _⟩
    have := HW.out
    omega
end Go.Proofs.YthbaipljlbddcaaGreat
/-
  A log and its twin by the document: ciboriumlaw08's pair: opens, and does, of a Read.
-/
namespace Go.Cib
open Go Go.RowKit
/-- A disk that is alive and not armed. -/
def DiskS.Live (D : DiskS) : Prop := D.dead = false ∧ D.armed = 0
theorem DiskS.Live.act {D : DiskS} (h : D.Live) (x : DAct) : (D.act x).2.Live := by
  obtain ⟨h1, h2⟩ := h
  cases x with
  | write i s =>
    show (D.write i s).2.Live
    unfold DiskS.write
    split
    · show ((D.put i s).goes).Live
      unfold DiskS.goes
      rw [if_pos (show (D.put i s).armed = 0 from h2)]
      exact ⟨h1, h2⟩
    · exact ⟨h1, h2⟩
  | flush =>
    show (D.flush).2.Live
    unfold DiskS.flush
    rw [if_neg (by simp [h1])]
    have hg : D.counted.goes = D.counted := by unfold DiskS.goes; rw [if_pos (show D.counted.armed = 0 from h2)]
    rw [hg]
    split
    · exact ⟨h1, h2⟩
    · exact ⟨h1, h2⟩
theorem DiskS.Live.acts (xs : List DAct) : ∀ {D : DiskS}, D.Live → (D.acts xs).2.Live := by
  induction xs with
  | nil => exact fun h => h
  | cons x xs ih =>
    intro D h
    rw [DiskS.acts_cons]
    split
    · exact ih (h.act x)
    · exact h.act x
theorem LogS.checkpoint_live {S : LogS} (h : S.disk.Live) : S.checkpoint.2.disk.Live := by
  unfold LogS.checkpoint
  split
  · exact h
  · split
    · exact h
    · split
      · exact h.acts _
      · split
        · exact (h.acts _).acts _
        · exact (h.acts _).acts _
theorem LogS.read_same {S : LogS} (ok : S.Ok) (hd : S.disk.dead = false) {n : Nat} (hn : n < S.pages) : (S.read n).2 = S := by
  unfold LogS.read
  split
  · rfl
  · split
    · rfl
    · split
      · rfl
      · have hsz := ok.size
        have hm : S.disk.may (2 + S.log + n) = 0 := by
          unfold DiskS.may
          rw [if_neg (by simp [hd]), if_neg (by omega), if_neg (by omega)]
        have hr : (S.disk.read (2 + S.log + n)).2 = 0 := by
          unfold DiskS.read
          rw [if_pos hm]
        rw [if_neg (by simp [hr])]
theorem tch_same {g : Nat} {w w' : World} (h : Tch [g] w w') (he : w'.heap[g]? = w.heap[g]?) : Tch [] w w' :=
  ⟨h.os, h.tape, h.output, h.size, fun k hk _ => by
    by_cases e : k = g
    · rw [e]; exact he
    · exact h.block k hk (by simpa using e)⟩
end Go.Cib
namespace Go.Proofs.YthbaipljlbddcaaGreat
open Go.RowKit Go.Cib
theorem opens_live {D : DiskS} (h : D.Live) {S : LogS} (hs : (LogS.opens D).2.1 = some S) : S.disk.Live := by
  unfold LogS.opens at hs
  split at hs
  · cases hs
  · split at hs
    · cases hs
    · split at hs
      · cases hs
      · rename_i hg
        split at hs
        · cases hs
        · have e := Option.some.inj hs
          rw [← e]
          refine LogS.checkpoint_live ?_
          rw [(LogS.runs_ok _ _ (heads_ok D hg)).2]
          have := (headsN_keep D 2).1
          show (headsN D 2).disk.Live
          rw [this]
          exact h
theorem exec_alloc_page {a : Act} {w : World} {dst : Option Tmp} {ty : TypeId} {pos : String} {af : Array Edge} {gd : Option (Nat × Bool)} : (execOp a.eval ⟨dst, .alloc 64, ty, pos, af, gd⟩).run Tryz.prog w = .ok (.value (.pointer (some ⟨w.heap.size, 0, none⟩))) (w.alloc (.cells (secA (Arr.zero : Page)) 64)) := by
  obtain ⟨i, h1, _, _, h2⟩ := pageT.info
  have h2' : i.zero = some (.agg (secA (Arr.zero : Page))) := h2
  generalize secA (Arr.zero : Page) = z at *
  exact exec_alloc h1 h2' rfl
theorem exec_store_page {a : Act} {w : World} {dst : Option Tmp} {ty : TypeId} {pos : String} {af : Array Edge} {gd : Option (Nat × Bool)} {x y : Operand} {B : Nat} {s0 s : Page} {e : TypeId} (hb : w.heap[B]? = some (.cells (secA s0) e)) (hx : a.eval x = .pointer (some ⟨B, 0, none⟩)) (hy : a.eval y = .agg (secA s)) :
    (execOp a.eval ⟨dst, .store 64 x y, ty, pos, af, gd⟩).run Tryz.prog w = .ok .skip (w.setRow B (secA s)) := by
  rw [exec_store_agg pageT.agg rfl hx hy (by simp) (secA_one s) hb (by simp), spl_all]
def DoVal1 (P X g : Nat) (n : Nat) (q : Page) (er : Int) : Nat → Value
  | 0 => .pointer (some ⟨P, 0, none⟩)
  | 1 => .pointer (some ⟨P, 0, none⟩)
  | 2 => .pointer (some ⟨P, 1, none⟩)
  | 3 => .pointer (some ⟨g, 0, none⟩)
  | 4 => .pointer (some ⟨X, 1, none⟩)
  | 5 => .int .i64 n
  | 6 => .tuple #[.agg (secA q), .int .i64 er]
  | 7 => .tuple #[.agg (secA q), .int .i64 er]
  | 8 => .agg (secA q)
  | _ => .int .i64 er
def DoVal2 (P X g : Nat) (n : Nat) (q : Page) (er : Int) : Nat → Value
  | 0 => .pointer (some ⟨P, 0, none⟩)
  | 1 => .pointer (some ⟨P, 0, none⟩)
  | 2 => .pointer (some ⟨P, 3, none⟩)
  | 3 => .pointer (some ⟨g, 0, none⟩)
  | 4 => .pointer (some ⟨X, 1, none⟩)
  | 5 => .int .i64 n
  | 6 => .tuple #[.agg (secA q), .int .i64 er]
  | 7 => .tuple #[.agg (secA q), .int .i64 er]
  | 8 => .agg (secA q)
  | _ => .int .i64 er

set_option maxRecDepth 20000 in
set_option maxHeartbeats 4000000 in
theorem doesRead_any {w : World} {P d L M r a b c g V g2 O B : Nat} {S : LogS} (hp : w.heap[P]? = some (.cells #[.pointer (some ⟨d, 0, none⟩), .pointer (some ⟨g, 0, none⟩), .pointer (some ⟨r, 0, none⟩), .pointer (some ⟨g2, 0, none⟩)] 44))
    (hl : LogAt w g d L M V S) (hx : RLogAt w g2 r a b c O B S) (ok : S.Ok) (hd : S.disk.dead = false) (n : Nat) (hn : n < S.pages) :
    Calls Tryz.prog 11 #[.pointer (some ⟨P, 0, none⟩), .agg #[.int .i64 3, .int .i64 n, .slice none 0 0, .slice none 0 0]] w fun e w' => e = .returned (.bool true) ∧ Tch [] w w' := by
  obtain ⟨q, hq⟩ : ∃ q, (S.read n).1.1 = q := ⟨_, rfl⟩
  obtain ⟨er, her⟩ : ∃ er, (S.read n).1.2 = er := ⟨_, rfl⟩
  have hsame := LogS.read_same ok hd hn
  have RL : Hid (∀ w', Tch [] w w' → Calls Tryz.prog 20 #[.pointer (some ⟨g, 0, none⟩), .int .i64 n] w' fun e w'' => e = .returned (.tuple #[.agg (secA q), .int .i64 er]) ∧ Tch [] w' w'') := fun w' ht => by
    have hl' := hl.touch ht (by simp) (by simp) (by simp) (by simp) (by simp)
    refine (logRead_any hl' ok (n : Int)).mono ?_
    rintro e w'' ⟨h1, h2, h3⟩
    rw [hsame] at h2
    exact ⟨by rw [h1, hq, her], tch_same h3 (h2.hg.trans hl'.hg.symm)⟩
  have RX0 : Hid (∀ w', Tch [] w w' → Calls Tryz.prog 31 #[.pointer (some ⟨g2, 0, none⟩), .int .i64 n] w' fun e w'' => e = .returned (.tuple #[.agg (secA q), .int .i64 er]) ∧ Tch [] w' w'') := fun w' ht => by
    have hl' := hx.old ht
    refine (rlogRead_any hl' ok (n : Int)).mono ?_
    rintro e w'' ⟨h1, h2, h3⟩
    rw [hsame] at h2
    exact ⟨by rw [h1, hq, her], tch_same h3 (h2.hg.trans hl'.hg.symm)⟩
  have HP := Lib.hid hp
  clear hq her hsame hl hx ok hd hp
  go_enter Tryz.func11, Tryz.ntmps11
  go_upto_region 1 with ((with_reducible refine wc_box_agg ?_ ?_); exact rfl; go_frame)
  obtain ⟨X, hX⟩ : ∃ X, w.heap.size = X := ⟨_, rfl⟩
  obtain ⟨w1, hw1⟩ : ∃ w1, w.alloc (.cells #[.int .i64 3, .int .i64 n, .slice none 0 0, .slice none 0 0] 56) = w1 := ⟨_, rfl⟩
  have t1 : Tch [] w w1 := by rw [← hw1]; exact (Tch.refl _ _).alloc _
  have b1 : w1.heap[X]? = some (.cells #[.int .i64 3, .int .i64 n, .slice none 0 0, .slice none 0 0] 56) := by rw [← hw1, ← hX]; exact heap_alloc_new _ _
  rw [hw1, hX]
  have c0 : w1.cell? ⟨X, 0, none⟩ = some (.int .i64 3) := (cell_of_row w1 X 0 _ _ _ b1).trans rfl
  have c1 : w1.cell? ⟨X, 1, none⟩ = some (.int .i64 n) := (cell_of_row w1 X 1 _ _ _ b1).trans rfl
  have p1 : w1.cell? ⟨P, 1, none⟩ = some (.pointer (some ⟨g, 0, none⟩)) := (cell_of_row w1 P 1 _ _ _ (t1.heap HP.out (by simp))).trans rfl
  have p3 : w1.cell? ⟨P, 3, none⟩ = some (.pointer (some ⟨g2, 0, none⟩)) := (cell_of_row w1 P 3 _ _ _ (t1.heap HP.out (by simp))).trans rfl
  have T1 := Lib.hid t1
  have RD : Hid (∀ w', Tch [] w1 w' → Calls Tryz.prog 20 #[.pointer (some ⟨g, 0, none⟩), .int .i64 n] w' fun e w'' => e = .returned (.tuple #[.agg (secA q), .int .i64 er]) ∧ Tch [] w' w'') := fun w' ht => RL.out w' (T1.out.trans ht)
  clear hw1 hX t1 b1
  go_upto_region 15 with fail
  refine wp_region_state 12 (MadeOne w1 (DoVal1 P X g n q er) 10 11 (.cells (secA (Arr.zero : Page)) 64) (.cells (secA q) 64)) (by kernel_rfl) (by kernel_rfl) (fun vs => ⟨(Tch.refl _ _).drew, fun j _ _ hl => (by rw [getD_replicate_false] at hl; cases hl), fun hl => (by rw [getD_replicate_false] at hl; cases hl), fun hl => (by rw [getD_replicate_false] at hl; cases hl)⟩) ?_ ?_
  · intro i o hi ho listed vs fu w' hI hsz hnl hold hdep
    have d1 := cell_old hI.tch c1
    have e1 := cell_old hI.tch p1
    have hi7 : i = 0 ∨ i = 1 ∨ i = 2 ∨ i = 3 ∨ i = 4 ∨ i = 5 ∨ i = 6 ∨ i = 7 ∨ i = 8 ∨ i = 9 ∨ i = 10 ∨ i = 11 := by omega
    rcases hi7 with rfl | rfl | rfl | rfl | rfl | rfl | rfl | rfl | rfl | rfl | rfl | rfl
    all_goals (simp only [List.getElem?_cons_zero, List.getElem?_cons_succ, Option.some.injEq] at ho; subst ho)
    · refine step_plain rfl ?_
      have x0 : fu.tmps[0]?.getD undef = .pointer (some ⟨P, 0, none⟩) := ev_tmp (hold 0 (by show _ < 262; omega) (by kernel_rfl))
      go_simp
      exact hI.plain (Tch.refl _ _) (by decide) (by decide)
    · refine step_plain rfl ?_
      obtain ⟨l76, e76⟩ := hdep 0 76 (by show _ < 262; omega) (by kernel_rfl) (by kernel_rfl)
      have x76 : fu.tmps[76]?.getD undef = .pointer (some ⟨P, 0, none⟩) := ev_tmp (e76.trans (hI.vals 0 (by decide) (by decide) l76))
      go_simp
      exact hI.plain (Tch.refl _ _) (by decide) (by decide)
    · refine step_plain rfl ?_
      obtain ⟨l77, e77⟩ := hdep 1 77 (by show _ < 262; omega) (by kernel_rfl) (by kernel_rfl)
      have x77 : fu.tmps[77]?.getD undef = .pointer (some ⟨P, 0, none⟩) := ev_tmp (e77.trans (hI.vals 1 (by decide) (by decide) l77))
      go_simp
      exact hI.plain (Tch.refl _ _) (by decide) (by decide)
    · refine step_plain rfl ?_
      obtain ⟨l78, e78⟩ := hdep 2 78 (by show _ < 262; omega) (by kernel_rfl) (by kernel_rfl)
      have x78 : fu.tmps[78]?.getD undef = .pointer (some ⟨P, 1, none⟩) := ev_tmp (e78.trans (hI.vals 2 (by decide) (by decide) l78))
      go_simp
      exact hI.plain (Tch.refl _ _) (by decide) (by decide)
    · refine step_plain rfl ?_
      have x3 : fu.tmps[3]?.getD undef = .pointer (some ⟨X, 0, none⟩) := ev_tmp (hold 3 (by show _ < 262; omega) (by kernel_rfl))
      go_simp
      exact hI.plain (Tch.refl _ _) (by decide) (by decide)
    · refine step_plain rfl ?_
      obtain ⟨l80, e80⟩ := hdep 4 80 (by show _ < 262; omega) (by kernel_rfl) (by kernel_rfl)
      have x80 : fu.tmps[80]?.getD undef = .pointer (some ⟨X, 1, none⟩) := ev_tmp (e80.trans (hI.vals 4 (by decide) (by decide) l80))
      go_simp
      exact hI.plain (Tch.refl _ _) (by decide) (by decide)
    · refine step_plain rfl ?_
      obtain ⟨l79, e79⟩ := hdep 3 79 (by show _ < 262; omega) (by kernel_rfl) (by kernel_rfl)
      have x79 : fu.tmps[79]?.getD undef = .pointer (some ⟨g, 0, none⟩) := ev_tmp (e79.trans (hI.vals 3 (by decide) (by decide) l79))
      obtain ⟨l81, e81⟩ := hdep 5 81 (by show _ < 262; omega) (by kernel_rfl) (by kernel_rfl)
      have x81 : fu.tmps[81]?.getD undef = .int .i64 n := ev_tmp (e81.trans (hI.vals 5 (by decide) (by decide) l81))
      go_simp
      refine (RD.out _ hI.tch).mono ?_
      rintro e w5 ⟨rfl, q2⟩
      exact ⟨_, rfl, hI.plain q2 (by decide) (by decide)⟩
    · refine step_plain rfl ?_
      obtain ⟨l82, e82⟩ := hdep 6 82 (by show _ < 262; omega) (by kernel_rfl) (by kernel_rfl)
      have x82 : fu.tmps[82]?.getD undef = .tuple #[.agg (secA q), .int .i64 er] := ev_tmp (e82.trans (hI.vals 6 (by decide) (by decide) l82))
      go_simp
      exact hI.plain (Tch.refl _ _) (by decide) (by decide)
    · refine step_plain rfl ?_
      obtain ⟨l75, e75⟩ := hdep 7 75 (by show _ < 262; omega) (by kernel_rfl) (by kernel_rfl)
      have x75 : fu.tmps[75]?.getD undef = .tuple #[.agg (secA q), .int .i64 er] := ev_tmp (e75.trans (hI.vals 7 (by decide) (by decide) l75))
      go_simp
      exact hI.plain (Tch.refl _ _) (by decide) (by decide)
    · refine step_plain rfl ?_
      obtain ⟨l75, e75⟩ := hdep 7 75 (by show _ < 262; omega) (by kernel_rfl) (by kernel_rfl)
      have x75 : fu.tmps[75]?.getD undef = .tuple #[.agg (secA q), .int .i64 er] := ev_tmp (e75.trans (hI.vals 7 (by decide) (by decide) l75))
      go_simp
      exact hI.plain (Tch.refl _ _) (by decide) (by decide)
    · refine step_plain rfl ?_
      exact stpR_ok (exec_alloc_page) (hI.alloc (by decide) hnl hsz)
    · refine step_plain rfl ?_
      obtain ⟨lA, eA⟩ := hdep 10 9 (by show _ < 262; omega) (by kernel_rfl) (by kernel_rfl)
      obtain ⟨lB, eB⟩ := hdep 8 83 (by show _ < 262; omega) (by kernel_rfl) (by kernel_rfl)
      have xB : fu.eval (.tmp 83) = .agg (secA q) := eB.trans (hI.vals 8 (by decide) (by decide) lB)
      obtain ⟨F, hB1, hB2, hB3⟩ := hI.made lA
      rw [if_neg (by rw [hnl]; simp)] at hB3
      have hb3 : w'.heap[F]? = some (.cells (secA (Arr.zero : Page)) 64) := hB3
      refine stpR_skip (exec_store_page hb3 (eA.trans hB1) xB) ?_
      exact hI.store (by decide) hsz lA hB1 hB2 ((Tch.refl _ _).setRow (.inl (by simp)) _) (setRow_heap _ _ _ _ _ _ hb3) _
  · intro vs w3 hI
    obtain ⟨F, hF1, hF2, hF3⟩ := hI.made (by kernel_rfl)
    rw [if_pos (by kernel_rfl)] at hF3
    have t3 := hI.tch
    have x9 : vs 9 = .int .i64 er := hI.vals 9 (by decide) (by decide) (by kernel_rfl)
    have X9 := Lib.hid x9
    have X10 := Lib.hid hF1
    have FB := Lib.hid hF3
    have T3 := Lib.hid (T1.out.trans t3)
    have c1 := cell_old t3 c1
    have p3 := cell_old t3 p3
    have RX : Hid (∀ w', Tch [] w3 w' → Calls Tryz.prog 31 #[.pointer (some ⟨g2, 0, none⟩), .int .i64 n] w' fun e w'' => e = .returned (.tuple #[.agg (secA q), .int .i64 er]) ∧ Tch [] w' w'') := fun w' ht => RX0.out w' (T3.out.trans ht)
    clear hI hF1 hF2 hF3 t3 x9 c0 p1 RD RL
    unfold fullOf
    rw [show (List.range 12).map vs = [vs 0, vs 1, vs 2, vs 3, vs 4, vs 5, vs 6, vs 7, vs 8, vs 9, vs 10, vs 11] from rfl, X9.out, X10.out]
    generalize vs 0 = v0
    generalize vs 1 = v1
    generalize vs 2 = v2
    generalize vs 3 = v3
    generalize vs 4 = v4
    generalize vs 5 = v5
    generalize vs 6 = v6
    generalize vs 7 = v7
    generalize vs 8 = v8
    generalize vs 11 = v11
    clear X9 X10 vs
    simp only [List.take_succ_cons, List.take_zero, List.drop_succ_cons, List.drop_zero, putAll]
    go_frame
    go_upto_region 16 with fail
    refine wp_region_state 12 (MadeOne w3 (DoVal2 P X g2 n q er) 10 11 (.cells (secA (Arr.zero : Page)) 64) (.cells (secA q) 64)) (by kernel_rfl) (by kernel_rfl) (fun vs => ⟨(Tch.refl _ _).drew, fun j _ _ hl => (by rw [getD_replicate_false] at hl; cases hl), fun hl => (by rw [getD_replicate_false] at hl; cases hl), fun hl => (by rw [getD_replicate_false] at hl; cases hl)⟩) ?_ ?_
    · intro i o hi ho listed vs fu w' hI hsz hnl hold hdep
      have d1 := cell_old hI.tch c1
      have e1 := cell_old hI.tch p3
      have hi7 : i = 0 ∨ i = 1 ∨ i = 2 ∨ i = 3 ∨ i = 4 ∨ i = 5 ∨ i = 6 ∨ i = 7 ∨ i = 8 ∨ i = 9 ∨ i = 10 ∨ i = 11 := by omega
      rcases hi7 with rfl | rfl | rfl | rfl | rfl | rfl | rfl | rfl | rfl | rfl | rfl | rfl
      all_goals (simp only [List.getElem?_cons_zero, List.getElem?_cons_succ, Option.some.injEq] at ho; subst ho)
      · refine step_plain rfl ?_
        have x0 : fu.tmps[0]?.getD undef = .pointer (some ⟨P, 0, none⟩) := ev_tmp (hold 0 (by show _ < 262; omega) (by kernel_rfl))
        go_simp
        exact hI.plain (Tch.refl _ _) (by decide) (by decide)
      · refine step_plain rfl ?_
        obtain ⟨l86, e86⟩ := hdep 0 86 (by show _ < 262; omega) (by kernel_rfl) (by kernel_rfl)
        have x86 : fu.tmps[86]?.getD undef = .pointer (some ⟨P, 0, none⟩) := ev_tmp (e86.trans (hI.vals 0 (by decide) (by decide) l86))
        go_simp
        exact hI.plain (Tch.refl _ _) (by decide) (by decide)
      · refine step_plain rfl ?_
        obtain ⟨l87, e87⟩ := hdep 1 87 (by show _ < 262; omega) (by kernel_rfl) (by kernel_rfl)
        have x87 : fu.tmps[87]?.getD undef = .pointer (some ⟨P, 0, none⟩) := ev_tmp (e87.trans (hI.vals 1 (by decide) (by decide) l87))
        go_simp
        exact hI.plain (Tch.refl _ _) (by decide) (by decide)
      · refine step_plain rfl ?_
        obtain ⟨l88, e88⟩ := hdep 2 88 (by show _ < 262; omega) (by kernel_rfl) (by kernel_rfl)
        have x88 : fu.tmps[88]?.getD undef = .pointer (some ⟨P, 3, none⟩) := ev_tmp (e88.trans (hI.vals 2 (by decide) (by decide) l88))
        go_simp
        exact hI.plain (Tch.refl _ _) (by decide) (by decide)
      · refine step_plain rfl ?_
        have x3 : fu.tmps[3]?.getD undef = .pointer (some ⟨X, 0, none⟩) := ev_tmp (hold 3 (by show _ < 262; omega) (by kernel_rfl))
        go_simp
        exact hI.plain (Tch.refl _ _) (by decide) (by decide)
      · refine step_plain rfl ?_
        obtain ⟨l90, e90⟩ := hdep 4 90 (by show _ < 262; omega) (by kernel_rfl) (by kernel_rfl)
        have x90 : fu.tmps[90]?.getD undef = .pointer (some ⟨X, 1, none⟩) := ev_tmp (e90.trans (hI.vals 4 (by decide) (by decide) l90))
        go_simp
        exact hI.plain (Tch.refl _ _) (by decide) (by decide)
      · refine step_plain rfl ?_
        obtain ⟨l89, e89⟩ := hdep 3 89 (by show _ < 262; omega) (by kernel_rfl) (by kernel_rfl)
        have x89 : fu.tmps[89]?.getD undef = .pointer (some ⟨g2, 0, none⟩) := ev_tmp (e89.trans (hI.vals 3 (by decide) (by decide) l89))
        obtain ⟨l91, e91⟩ := hdep 5 91 (by show _ < 262; omega) (by kernel_rfl) (by kernel_rfl)
        have x91 : fu.tmps[91]?.getD undef = .int .i64 n := ev_tmp (e91.trans (hI.vals 5 (by decide) (by decide) l91))
        go_simp
        refine (RX.out _ hI.tch).mono ?_
        rintro e w5 ⟨rfl, q2⟩
        exact ⟨_, rfl, hI.plain q2 (by decide) (by decide)⟩
      · refine step_plain rfl ?_
        obtain ⟨l92, e92⟩ := hdep 6 92 (by show _ < 262; omega) (by kernel_rfl) (by kernel_rfl)
        have x92 : fu.tmps[92]?.getD undef = .tuple #[.agg (secA q), .int .i64 er] := ev_tmp (e92.trans (hI.vals 6 (by decide) (by decide) l92))
        go_simp
        exact hI.plain (Tch.refl _ _) (by decide) (by decide)
      · refine step_plain rfl ?_
        obtain ⟨l85, e85⟩ := hdep 7 85 (by show _ < 262; omega) (by kernel_rfl) (by kernel_rfl)
        have x85 : fu.tmps[85]?.getD undef = .tuple #[.agg (secA q), .int .i64 er] := ev_tmp (e85.trans (hI.vals 7 (by decide) (by decide) l85))
        go_simp
        exact hI.plain (Tch.refl _ _) (by decide) (by decide)
      · refine step_plain rfl ?_
        obtain ⟨l85, e85⟩ := hdep 7 85 (by show _ < 262; omega) (by kernel_rfl) (by kernel_rfl)
        have x85 : fu.tmps[85]?.getD undef = .tuple #[.agg (secA q), .int .i64 er] := ev_tmp (e85.trans (hI.vals 7 (by decide) (by decide) l85))
        go_simp
        exact hI.plain (Tch.refl _ _) (by decide) (by decide)
      · refine step_plain rfl ?_
        exact stpR_ok (exec_alloc_page) (hI.alloc (by decide) hnl hsz)
      · refine step_plain rfl ?_
        obtain ⟨lA, eA⟩ := hdep 10 11 (by show _ < 262; omega) (by kernel_rfl) (by kernel_rfl)
        obtain ⟨lB, eB⟩ := hdep 8 93 (by show _ < 262; omega) (by kernel_rfl) (by kernel_rfl)
        have xB : fu.eval (.tmp 93) = .agg (secA q) := eB.trans (hI.vals 8 (by decide) (by decide) lB)
        obtain ⟨F, hB1, hB2, hB3⟩ := hI.made lA
        rw [if_neg (by rw [hnl]; simp)] at hB3
        have hb3 : w'.heap[F]? = some (.cells (secA (Arr.zero : Page)) 64) := hB3
        refine stpR_skip (exec_store_page hb3 (eA.trans hB1) xB) ?_
        exact hI.store (by decide) hsz lA hB1 hB2 ((Tch.refl _ _).setRow (.inl (by simp)) _) (setRow_heap _ _ _ _ _ _ hb3) _
    · intro us w5 hI
      obtain ⟨G, hG1, hG2, hG3⟩ := hI.made (by kernel_rfl)
      rw [if_pos (by kernel_rfl)] at hG3
      have t5 := hI.tch
      have x9 : us 9 = .int .i64 er := hI.vals 9 (by decide) (by decide) (by kernel_rfl)
      have X9 := Lib.hid x9
      have X10 := Lib.hid hG1
      have GB := Lib.hid hG3
      have FB5 := Lib.hid (t5.heap FB.out (by simp))
      have T5 := Lib.hid (T3.out.trans t5)
      clear hI hG1 hG2 hG3 t5 x9 c1 p3 RX RX0 FB T3
      unfold fullOf
      rw [show (List.range 12).map us = [us 0, us 1, us 2, us 3, us 4, us 5, us 6, us 7, us 8, us 9, us 10, us 11] from rfl, X9.out, X10.out]
      generalize us 0 = u0
      generalize us 1 = u1
      generalize us 2 = u2
      generalize us 3 = u3
      generalize us 4 = u4
      generalize us 5 = u5
      generalize us 6 = u6
      generalize us 7 = u7
      generalize us 8 = u8
      generalize us 11 = u11
      clear X9 X10 us
      simp only [List.take_succ_cons, List.take_zero, List.drop_succ_cons, List.drop_zero, putAll]
      go_frame
      have hqq : decide (q = q) = true := decide_eq_true rfl
      have hee : (er == er) = true := beq_self_eq_true er
      go_wp2_with (first | ((with_reducible apply wc_load_var pageT FB5.out); exact rfl; go_frame) | ((with_reducible apply wc_load_var pageT GB.out); exact rfl; go_frame) | ((with_reducible refine wc_eql_arr pageT (s := q) (t := q) ?_ ?_ ?_); exact rfl; exact rfl; rw [hqq]; go_frame))
      go_ret
      exact ⟨rfl, T5.out⟩
end Go.Proofs.YthbaipljlbddcaaGreat
/-
  Over any sectors a log is found, or is none, as the document says: the walk of WalOpens.
-/
namespace Go.Proofs.YthbaipljlbddcaaGreat
open Go.RowKit Go.Cib
/-- Behind pair.opens. -/
def POut (P d L M r a b c : Nat) (R : Int × Option LogS × DiskS) (w' : World) : Prop :=
  DiskAt w' d L M R.2.2 ∧ RefAt w' r a b c R.2.2 ∧
    ((R.2.1 = none ∧ w'.heap[P]? = some (.cells #[.pointer (some ⟨d, 0, none⟩), .pointer none, .pointer (some ⟨r, 0, none⟩), .pointer none] 44)) ∨
      ∃ S g V g2 O B, R.2.1 = some S ∧ w'.heap[P]? = some (.cells #[.pointer (some ⟨d, 0, none⟩), .pointer (some ⟨g, 0, none⟩), .pointer (some ⟨r, 0, none⟩), .pointer (some ⟨g2, 0, none⟩)] 44) ∧ LogAt w' g d L M V S ∧ RLogAt w' g2 r a b c O B S ∧ S.Ok)
set_option maxRecDepth 20000 in
set_option maxHeartbeats 2000000 in
theorem popens_any {w : World} {P d L M r a b c : Nat} {D : DiskS} (hp : w.heap[P]? = some (.cells #[.pointer (some ⟨d, 0, none⟩), .pointer none, .pointer (some ⟨r, 0, none⟩), .pointer none] 44))
    (hd : DiskAt w d L M D) (hr : RefAt w r a b c D) (n1 : ∀ k ∈ [d, L, M], k ∉ [r, a, b, c]) (n2 : P ∉ [d, L, M, r, a, b, c]) :
    Calls Tryz.prog 8 #[.pointer (some ⟨P, 0, none⟩)] w fun e w' => e = .returned (.bool true) ∧ POut P d L M r a b c (LogS.opens D) w' ∧ Tch [P, d, L, M, r, a, b, c] w w' := by
  obtain ⟨R, hR⟩ : ∃ R, LogS.opens D = R := ⟨_, rfl⟩
  rw [hR]
  have hPw := lt_of_heap hp
  have hrw := lt_of_heap hr.hr
  have haw := lt_of_heap hr.hL
  have hbw : b < w.heap.size := by obtain ⟨ws, g1, _⟩ := hr.hW; exact lt_of_heap g1
  have hcw := lt_of_heap hr.hH
  have hdw := lt_of_heap hd.hd
  have hLw := lt_of_heap hd.hL
  have hMw := hd.hM.lt
  have c0 : w.cell? ⟨P, 0, none⟩ = some (.pointer (some ⟨d, 0, none⟩)) := (cell_of_row w P 0 _ _ _ hp).trans rfl
  have NN : Hid ((P ∉ [d, L, M] ∧ P ∉ [r, a, b, c]) ∧ (d ∉ [r, a, b, c] ∧ L ∉ [r, a, b, c] ∧ M ∉ [r, a, b, c]) ∧ (r ∉ [d, L, M] ∧ a ∉ [d, L, M] ∧ b ∉ [d, L, M] ∧ c ∉ [d, L, M]) ∧ (d ∉ [P] ∧ L ∉ [P] ∧ M ∉ [P]) ∧ (r ∉ [P] ∧ a ∉ [P] ∧ b ∉ [P] ∧ c ∉ [P])) := by
    have nd := n1 d (by simp)
    have nL := n1 L (by simp)
    have nM := n1 M (by simp)
    simp only [List.mem_cons, List.not_mem_nil, or_false, not_or] at n2 nd nL nM
    obtain ⟨q1, q2, q3, q4, q5, q6, q7⟩ := n2
    obtain ⟨d1, d2, d3, d4⟩ := nd
    obtain ⟨l1, l2, l3, l4⟩ := nL
    obtain ⟨m1, m2, m3, m4⟩ := nM
    simp only [List.mem_cons, List.not_mem_nil, or_false, not_or]
    exact ⟨⟨⟨q1, q2, q3⟩, q4, q5, q6, q7⟩, ⟨⟨d1, d2, d3, d4⟩, ⟨l1, l2, l3, l4⟩, m1, m2, m3, m4⟩, ⟨⟨Ne.symm d1, Ne.symm l1, Ne.symm m1⟩, ⟨Ne.symm d2, Ne.symm l2, Ne.symm m2⟩, ⟨Ne.symm d3, Ne.symm l3, Ne.symm m3⟩, Ne.symm d4, Ne.symm l4, Ne.symm m4⟩, ⟨Ne.symm q1, Ne.symm q2, Ne.symm q3⟩, Ne.symm q4, Ne.symm q5, Ne.symm q6, Ne.symm q7⟩
  clear n2
  have CO := Lib.hid (open_any hd)
  rw [hR] at CO
  have CR : Hid (∀ w1, Tch [d, L, M] w w1 → Calls Tryz.prog 25 #[.pointer (some ⟨r, 0, none⟩)] w1 fun e w' => ROpenOut w1 r a b c R e w') := fun w1 t1 => by
    rw [← hR]
    exact ropen_any (hr.touch t1 NN.out.2.2.1.1 NN.out.2.2.1.2.1 NN.out.2.2.1.2.2.1 NN.out.2.2.1.2.2.2)
  have TFIN : Hid (∀ w1, Tch [d, L, M] w w1 → ∀ w2, Tch [r, a, b, c] w1 w2 → ∀ w3, Tch [P] w2 w3 → Tch [P, d, L, M, r, a, b, c] w w3) := fun w1 t1 w2 t2 w3 t3 =>
    (t1.mono (by simp)).trans ((t2.mono (by simp)).trans (t3.mono (by simp)))
  have HP := Lib.hid hp
  clear hp hd hr n1 hR
  go_enter Tryz.func8, Tryz.ntmps8
  go_wp2_with fail
  refine CO.out.mono ?_
  rintro e w1 ⟨t1, hd1, hcase⟩
  have hp1 := t1.heap HP.out NN.out.1.1
  have d2 : w1.cell? ⟨P, 2, none⟩ = some (.pointer (some ⟨r, 0, none⟩)) := (cell_of_row w1 P 2 _ _ _ hp1).trans rfl
  have sz1 := t1.size
  have T1 := Lib.hid t1
  have HD1 := Lib.hid hd1
  have HP1 := Lib.hid hp1
  have CR1 := Lib.hid (CR.out w1 t1)
  clear t1 hd1 hp1 CR CO c0
  rcases hcase with ⟨hn, rfl⟩ | ⟨S, g, V, hs, rfl, hz, hlog, hok, hg, hV⟩
  · have HN := Lib.hid hn
    clear hn
    go_wp2_with fail
    refine CR1.out.mono ?_
    rintro e w2 ⟨t2, hr2, hcase⟩
    have hp2 := t2.heap HP1.out NN.out.1.2
    have e1 : w2.cell? ⟨P, 1, none⟩ = some (.pointer none) := (cell_of_row w2 P 1 _ _ _ hp2).trans rfl
    have e3 : w2.cell? ⟨P, 3, none⟩ = some (.pointer none) := (cell_of_row w2 P 3 _ _ _ hp2).trans rfl
    have f1 := frozen_of_row w2 P 1 _ _ hp2
    have f3 := frozen_of_row w2 P 3 _ _ hp2
    have T2 := Lib.hid t2
    have HR2 := Lib.hid hr2
    have HP2 := Lib.hid hp2
    have HD2 := Lib.hid (HD1.out.touch t2 NN.out.2.1.1 NN.out.2.1.2.1 NN.out.2.1.2.2)
    rcases hcase with ⟨_, rfl⟩ | ⟨S, g, O, B, hs, _⟩
    · have hrr : (R.1 == R.1) = true := beq_self_eq_true _
      clear t2 hr2 hp2
      go_wp2_with fail
      go_ret
      have t3 : Tch [P] w2 ((w2.setCell ⟨P, 1, none⟩ (.pointer none)).setCell ⟨P, 3, none⟩ (.pointer none)) := ((Tch.refl _ _).setCell (by simp) _).setCell (by simp) _
      refine ⟨rfl, ⟨HD2.out.touch t3 NN.out.2.2.2.1.1 NN.out.2.2.2.1.2.1 NN.out.2.2.2.1.2.2, HR2.out.touch t3 NN.out.2.2.2.2.1 NN.out.2.2.2.2.2.1 NN.out.2.2.2.2.2.2.1 NN.out.2.2.2.2.2.2.2, .inl ⟨HN.out, ?_⟩⟩, TFIN.out w1 T1.out w2 T2.out _ t3⟩
      rw [heap_setCell_cells (heap_setCell_cells HP2.out _ _) _ _]
      rfl
    · rw [HN.out] at hs; cases hs
  · have HS := Lib.hid hs
    have HZ := Lib.hid hz
    have HLOG := Lib.hid hlog
    have OKK := Lib.hid hok
    clear hs hz hlog hok
    go_wp2_with fail
    refine CR1.out.mono ?_
    rintro e w2 ⟨t2, hr2, hcase⟩
    have hp2 := t2.heap HP1.out NN.out.1.2
    have e1 : w2.cell? ⟨P, 1, none⟩ = some (.pointer none) := (cell_of_row w2 P 1 _ _ _ hp2).trans rfl
    have e3 : w2.cell? ⟨P, 3, none⟩ = some (.pointer none) := (cell_of_row w2 P 3 _ _ _ hp2).trans rfl
    have f1 := frozen_of_row w2 P 1 _ _ hp2
    have f3 := frozen_of_row w2 P 3 _ _ hp2
    have T2 := Lib.hid t2
    have HR2 := Lib.hid hr2
    have HP2 := Lib.hid hp2
    have HL2 := Lib.hid (HLOG.out.touch t2 (by simp; omega) NN.out.2.1.1 NN.out.2.1.2.1 NN.out.2.1.2.2 (by simp; omega))
    have HD2 := Lib.hid (HD1.out.touch t2 NN.out.2.1.1 NN.out.2.1.2.1 NN.out.2.1.2.2)
    rcases hcase with ⟨hn, _⟩ | ⟨S2, g2, O, B, hs, rfl, _, hx, _, hg2, hO, hB⟩
    · rw [HS.out] at hn; cases hn
    · have hSS : S2 = S := by rw [HS.out] at hs; exact (Option.some.inj hs).symm
      subst hSS
      have HX := Lib.hid hx
      have HXT : Hid (∀ k ∈ [g2, r, a, b, c, O, B], k ∉ [P]) := by
        intro k hk
        simp only [List.mem_cons, List.not_mem_nil, or_false] at hk
        rcases hk with rfl | rfl | rfl | rfl | rfl | rfl | rfl
        · simp; omega
        · exact NN.out.2.2.2.2.1
        · exact NN.out.2.2.2.2.2.1
        · exact NN.out.2.2.2.2.2.2.1
        · exact NN.out.2.2.2.2.2.2.2
        · simp; omega
        · simp; omega
      clear t2 hr2 hp2 hs hx
      go_wp2_with fail
      go_ret
      have t3 : Tch [P] w2 ((w2.setCell ⟨P, 1, none⟩ (.pointer (some ⟨g, 0, none⟩))).setCell ⟨P, 3, none⟩ (.pointer (some ⟨g2, 0, none⟩))) := ((Tch.refl _ _).setCell (by simp) _).setCell (by simp) _
      refine ⟨rfl, ⟨HD2.out.touch t3 NN.out.2.2.2.1.1 NN.out.2.2.2.1.2.1 NN.out.2.2.2.1.2.2, HR2.out.touch t3 NN.out.2.2.2.2.1 NN.out.2.2.2.2.2.1 NN.out.2.2.2.2.2.2.1 NN.out.2.2.2.2.2.2.2, .inr ⟨_, g, V, g2, O, B, HS.out, ?_, HL2.out.touch t3 (by simp; omega) NN.out.2.2.2.1.1 NN.out.2.2.2.1.2.1 NN.out.2.2.2.1.2.2 (by simp; omega), HX.out.touch t3 HXT.out, OKK.out⟩⟩, TFIN.out w1 T1.out w2 T2.out _ t3⟩
      rw [heap_setCell_cells (heap_setCell_cells HP2.out _ _) _ _]
      rfl
end Go.Proofs.YthbaipljlbddcaaGreat
/-
  Over any sectors a log is found, or is none, as the document says: the walk of WalOpens.
-/
namespace Go.Proofs.YthbaipljlbddcaaGreat
open Go.RowKit Go.Cib
structure RawAt (w : World) (b off : Nat) (v : RawV) : Prop where
  c0 : w.cell? ⟨b, off, none⟩ = some (.int .u8 v.kind.toNat)
  c1 : w.cell? ⟨b, off + 1, none⟩ = some (.int .u64 v.gen)
  c2 : w.cell? ⟨b, off + 2, none⟩ = some (.int .u64 v.num)
  c3 : w.cell? ⟨b, off + 3, none⟩ = some (.int .u32 v.idx)
  c4 : w.cell? ⟨b, off + 4, none⟩ = some (.slice v.na v.nums.length v.ncap)
  c5 : w.cell? ⟨b, off + 5, none⟩ = some (.string v.text)
  c6 : w.cell? ⟨b, off + 6, none⟩ = some (.int .i64 v.at_)
  c7 : w.cell? ⟨b, off + 7, none⟩ = some (.int .u8 v.turn.toNat)
  ok : RawOk w v
def RawsAt (w : World) (a : Option Addr) (vs : List RawV) : Prop :=
  ∀ (j : Nat) (v : RawV), vs[j]? = some v → ∃ b off, a = some ⟨b, off, none⟩ ∧ RawAt w b (off + j * 8) v
theorem RawAt.later {w w' : World} {b off : Nat} {v : RawV} (h : RawAt w b off v) (ht : Tch [] w w') : RawAt w' b off v :=
  ⟨cell_old ht h.c0, cell_old ht h.c1, cell_old ht h.c2, cell_old ht h.c3, cell_old ht h.c4, cell_old ht h.c5, cell_old ht h.c6, cell_old ht h.c7, h.ok.old ht⟩
theorem RawsAt.later {w w' : World} {a : Option Addr} {vs : List RawV} (h : RawsAt w a vs) (ht : Tch [] w w') : RawsAt w' a vs := fun j v hj => by
  obtain ⟨b, off, h1, h2⟩ := h j v hj
  exact ⟨b, off, h1, h2.later ht⟩
set_option maxRecDepth 20000 in
theorem walOpens_big (w : World) (a : Option Addr) (cap m : Nat) (hm : 60 < m) :
    Calls Tryz.prog 3 #[.slice a m cap] w fun e w' => e = .returned (.bool true) ∧ Tch [] w w' := by
  go_enter Tryz.func3, Tryz.ntmps3
  go_wp2_with (go_at_call 4; refine (works_any _).mono ?_; rintro e w' ⟨rfl, hq1⟩; have HQ := Lib.hid hq1; clear hq1)
  go_ret
  exact ⟨rfl, HQ.out⟩
theorem POut.old {w w' : World} {P d L M r a b c : Nat} {R : Int × Option LogS × DiskS} (h : POut P d L M r a b c R w) (ht : Tch [] w w') : POut P d L M r a b c R w' := by
  obtain ⟨h1, h2, h3⟩ := h
  refine ⟨h1.touch ht (by simp) (by simp) (by simp), h2.touch ht (by simp) (by simp) (by simp) (by simp), ?_⟩
  rcases h3 with ⟨k1, k2⟩ | ⟨S, g, V, g2, O, B, k1, k2, k3, k4, k5⟩
  · exact .inl ⟨k1, ht.heap k2 (by simp)⟩
  · exact .inr ⟨S, g, V, g2, O, B, k1, ht.heap k2 (by simp), k3.touch ht (by simp) (by simp) (by simp) (by simp) (by simp), k4.old ht, k5⟩
/-- The values of the region that asks whether the sectors are the same. -/
def KSec (d r a : Nat) (ls : List Sec) : Nat → Value → World → Prop
  | 4, v, _ => v = .pointer (some ⟨d, 0, none⟩)
  | 5, v, w => ∃ k cap, v = .slice (some ⟨k, 0, none⟩) ls.length cap ∧ SecsIn w k ls
  | 6, v, _ => v = .pointer (some ⟨r, 0, none⟩)
  | 7, v, _ => v = .pointer (some ⟨r, 0, none⟩)
  | 8, v, _ => v = .pointer (some ⟨r, 0, none⟩)
  | 9, v, _ => v = .slice (some ⟨a, 0, none⟩) ls.length ls.length
  | _, _, _ => True
set_option maxRecDepth 20000 in
theorem walOpens_none (w : World) (a : Option Addr) (cap : Nat) :
    Calls Tryz.prog 3 #[.slice a 0 cap] w fun e w' => e = .returned (.bool true) ∧ Tch [] w w' := by
  go_enter Tryz.func3, Tryz.ntmps3
  go_wp2_with fail
  go_loopg [3, 4] 0 (fun q l i wr => q = 0 ∧ l = .slice none 0 0 ∧ i = .int .i64 0 ∧ w = wr)
  case atStart => exact ⟨rfl, rfl, rfl, rfl⟩
  case round =>
    obtain ⟨rfl, rfl, rfl, rfl⟩ := hrel
    go_wp2_with (first | (go_at_call 6; refine (load_no _).mono ?_; rintro e w' ⟨rfl, rfl⟩) | (go_at_call 7; refine (refLoad_no _).mono ?_; rintro e w' ⟨rfl, rfl⟩) | (go_at_call 4; refine (works_any _).mono ?_; rintro e w' ⟨rfl, hq1⟩; have HQ := Lib.hid hq1; clear hq1))
    go_ret
    exact ⟨rfl, HQ.out⟩
set_option maxRecDepth 20000 in
set_option maxHeartbeats 4000000 in
theorem walOpens_in (w : World) (ra : Option Addr) (cap : Nat) (vs : List RawV) (ho : RawsAt w ra vs) (h1 : 1 ≤ vs.length) (hn : vs.length ≤ 60) :
    Calls Tryz.prog 3 #[.slice ra vs.length cap] w fun e w' => e = .returned (.bool true) ∧ Tch [] w w' := by
  have HO := Lib.hid ho
  clear ho
  generalize hm : vs.length = n at *
  have HN := Lib.hid hm
  clear hm
  go_enter Tryz.func3, Tryz.ntmps3
  go_upto_block 0 with fail
  go_cut [3, 4] from 15 to 28 (fun l _ wx => Tch [] w wx ∧ ∃ ss : List Sec, ss.length = n ∧ OwnArrs wx w.heap.size 26 l ss)
  case first =>
    go_wp2_with fail
    go_loopg [3, 4] n (fun q l i wr => ∃ j, OnAt n i q j ∧ Tch [] w wr ∧ ∃ ss : List Sec, ss.length = j ∧ OwnArrs wr w.heap.size 26 l ss)
    case atStart => exact ⟨0, ⟨Nat.zero_le _, rfl, rfl⟩, Tch.refl _ _, [], rfl, ownArrs_nil _ _ _⟩
    case round =>
      obtain ⟨j, ⟨hj, rfl, rfl⟩, hT, ss, hss, hO⟩ := hrel
      rename_i l
      have T1 := Lib.hid hT
      have O1 := Lib.hid hO
      have HSS := Lib.hid hss
      clear hT hO hss
      by_cases hjn : j < n
      · have htl : j < vs.length := by have := HN.out; omega
        have hx : vs[j]? = some (vs[j]'htl) := List.getElem?_eq_getElem _
        generalize vs[j]'htl = v at *
        obtain ⟨b, o, rfl, hc⟩ := (HO.out.later T1.out) j _ hx
        have c0 := hc.c0
        have c1 := hc.c1
        have c2 := hc.c2
        have c3 := hc.c3
        have c4 := hc.c4
        have c5 := hc.c5
        have c6 := hc.c6
        have c7 := hc.c7
        have RO := Lib.hid hc.ok
        clear hc hx
        have hlen : Hid (ss.length + 1 ≤ 301) := by
          show _ ≤ _
          have := HSS.out; omega
        go_wp2_with fail
        refine (rawSec_any v RO.out).mono ?_
        rintro e w5 ⟨⟨s, rfl⟩, hq1⟩
        have T5 := Lib.hid (T1.out.trans hq1)
        have O5 := Lib.hid (O1.out.kept hq1 (by simp))
        clear hq1
        go_wp2_with (first | ((with_reducible refine wc_slice_one secT (by decide) (by decide) uSecs (s := s) ?_ ?_); exact rfl; go_frame) | (at_builtin; (with_reducible refine wc_append_arr (x := .tmp 21) (y := .tmp 27) (g := w5.heap.size) secT (by decide) uSecs (O5.out.kept ((Tch.refl [] _).alloc _) (by simp)) (by have := T5.out.size; simp; omega) (by have := hlen.out; omega) (s := s) (e := 26) rfl rfl ?_ ?_ ?_ ?_); exact rfl; exact rfl; exact heap_alloc_new _ _; intro v6 w6 ho6 ht6; go_frame; have HO6 := Lib.hid ho6; have HT6 := Lib.hid ht6; clear ho6 ht6))
        go_roundg (n - (j + 1))
        case measure => omega
        case rel =>
          refine ⟨j + 1, ⟨by omega, by go_num, rfl⟩, ?_, ss ++ [s], by have := HSS.out; simp; omega, HO6.out⟩
          exact tch_own (T5.out.alloc _) HT6.out (fun k hk => (O5.out.lt k hk).1)
      · go_wp2_with fail
        go_meet
        exact ⟨T1.out, ss, by have := HSS.out; omega, O1.out⟩
  case rest =>
  obtain ⟨hT, ls, hl, hO⟩ := hcut
  have WK : Hid (∀ W, Calls Tryz.prog 4 #[] W fun e w' => e = .returned (.bool true) ∧ Tch [] W w') := fun W => works_any W
  rcases hO.shape with ⟨_, h0⟩ | ⟨b, c, rfl, hb, hs⟩
  · rw [h0] at hl; simp at hl; omega
  have blt : b < wc.heap.size := by obtain ⟨cur, e, g, _⟩ := hs; exact lt_of_heap g
  rw [hl]
  have CL : Hid (∀ W, SecsIn W b ls → Calls Tryz.prog 6 #[.slice (some ⟨b, 0, none⟩) n c] W fun e w' => ∃ d L M, e = .returned (.tuple #[.pointer (some ⟨d, 0, none⟩), .int .i64 0]) ∧
      DiskAt w' d L M (loaded ls) ∧ Tch [] W w' ∧ W.heap.size ≤ d ∧ W.heap.size ≤ L ∧ W.heap.size ≤ M) := fun W h => by
    have := load_any (cap := c) h (by omega) (by omega)
    rw [hl] at this; exact this
  have CR : Hid (∀ W, SecsIn W b ls → Calls Tryz.prog 7 #[.slice (some ⟨b, 0, none⟩) n c] W (RefLoaded W ls)) := fun W h => by
    have := refLoad_any (cap := c) h (by omega) (by omega)
    rw [hl] at this; exact this
  have T1 := Lib.hid hT
  have S1 := Lib.hid hs
  have LV : Hid (loaded ls).Live := ⟨rfl, rfl⟩
  clear hT hs hl hO HO HN h1
  go_wp2_with fail
  refine (CL.out _ S1.out).mono ?_
  rintro e w1 ⟨d, L, M, rfl, h1, t1, n1, n2, n3⟩
  have H1 := Lib.hid h1
  have S2 := Lib.hid (S1.out.touch t1 (by simp))
  have T2 := Lib.hid t1
  clear h1 t1 S1
  go_wp2_with fail
  refine (CR.out _ S2.out).mono ?_
  rintro e w2 ⟨r, a, b2, c2, rfl, h2, t2, m1, m2, m3, m4⟩
  have H1' := Lib.hid (H1.out.touch t2 (by simp) (by simp) (by simp))
  have H2 := Lib.hid h2
  have T3 := Lib.hid (T1.out.trans (T2.out.trans t2))
  have hdl := lt_of_heap H1.out.hd
  have hLl := lt_of_heap H1.out.hL
  have hMl := H1.out.hM.lt
  have sz1 := T1.out.size
  have sz2 := T2.out.size
  have sz3 := t2.size
  have NA : Hid (∀ k ∈ [d, L, M], k ∉ [r, a, b2, c2]) := by
    intro k hk
    simp only [List.mem_cons, List.not_mem_nil, or_false] at hk ⊢
    omega
  have NS : Hid (∀ k ∈ [d, L, M, r, a, b2, c2], w.heap.size ≤ k ∧ k < w2.heap.size) := by
    have hrw := lt_of_heap h2.hr
    have haw := lt_of_heap h2.hL
    have hbw : b2 < w2.heap.size := by obtain ⟨ws, g1, _⟩ := h2.hW; exact lt_of_heap g1
    have hcw := lt_of_heap h2.hH
    intro k hk
    simp only [List.mem_cons, List.not_mem_nil, or_false] at hk
    omega
  clear h2 t2 m1 m2 m3 m4 n1 n2 n3 H1 S2 T2 T1 sz1 sz2 sz3 hdl hLl hMl CL CR blt hb
  go_wp2_with fail
  obtain ⟨R, hR⟩ : ∃ R, LogS.opens (loaded ls) = R := ⟨_, rfl⟩
  have CP : Hid (∀ W, Tch [] w2 W → W.heap[w2.heap.size]? = some (.cells #[.pointer (some ⟨d, 0, none⟩), .pointer none, .pointer (some ⟨r, 0, none⟩), .pointer none] 44) →
      Calls Tryz.prog 8 #[.pointer (some ⟨w2.heap.size, 0, none⟩)] W fun e w' => e = .returned (.bool true) ∧ POut w2.heap.size d L M r a b2 c2 R w' ∧ Tch [w2.heap.size, d, L, M, r, a, b2, c2] W w') := fun W ht hp => by
    rw [← hR]
    refine popens_any hp (H1'.out.touch ht (by simp) (by simp) (by simp)) (H2.out.touch ht (by simp) (by simp) (by simp) (by simp)) NA.out ?_
    intro hm
    have := (NS.out _ hm).2
    omega
  refine rest_start (by kernel_rfl) ?_
  refine rest_forced (n := 0) (m := 4) (by kernel_rfl) ?_
  simp only [List.take_succ_cons, List.take_zero, List.drop_zero]
  go_wp2_with (go_at_call 8; refine (CP.out _ (((Tch.refl _ _).alloc _).drew) (heap_alloc_new _ _)).mono ?_; rintro e w4 ⟨rfl, hq, tq⟩; have HQ := Lib.hid hq; have TQ := Lib.hid tq; clear hq tq)
  show RestAt _ _ _ 4 _ _
  have hsz4 := TQ.out.size
  refine rest_vals (n := 4) (m := 10) (fun w' => POut w2.heap.size d L M r a b2 c2 R w' ∧ Tch [] w4 w') (KSec d r a R.2.2.lasts) (by decide) (by kernel_rfl) ⟨HQ.out, Tch.refl _ _⟩ ?_ ?_ ?_
  · intro w1 w2 _ _ ht i v hk
    unfold KSec at hk ⊢
    split at hk
    · exact hk
    · obtain ⟨k, cap, h1, h2⟩ := hk
      exact ⟨k, cap, h1, h2.touch ht (by simp)⟩
    · exact hk
    · exact hk
    · exact hk
    · exact hk
    · trivial
  · intro i o hi0 hi ho fu w' hC hold hdep
    have hi7 : i = 4 ∨ i = 5 ∨ i = 6 ∨ i = 7 ∨ i = 8 ∨ i = 9 := by omega
    rcases hi7 with rfl | rfl | rfl | rfl | rfl | rfl
    all_goals (simp only [List.getElem?_cons_zero, List.getElem?_cons_succ, Option.some.injEq] at ho; subst ho)
    all_goals (have g59 : fu.eval (.tmp 59) = .bool false := (hold 59 (by show _ < 93; omega) (by kernel_rfl)))
    all_goals (refine guard_by (fu := fu) (g := 3) (t := 59) (b := false) rfl rfl g59 ?_)
    · have hx := hold 5 (by show _ < 93; omega) (by kernel_rfl)
      exact stpR_ok (exec_move hx) ⟨rfl, hC, Tch.refl _ _⟩
    · have hx : fu.tmps[60]?.getD undef = .pointer (some ⟨d, 0, none⟩) := ev_tmp (hdep 4 60 (by show _ < 93; omega) (by kernel_rfl) (by kernel_rfl) (by decide))
      go_simp
      refine (sectors_any hC.1.1).mono ?_
      rintro e w4 ⟨hq1, k1, ca1, rfl, hq2, hq3⟩
      exact ⟨_, rfl, ⟨k1, ca1, rfl, hq3⟩, ⟨hC.1.old hq1, hC.2.trans hq1⟩, hq1⟩
    · have hx := hold 7 (by show _ < 93; omega) (by kernel_rfl)
      exact stpR_ok (exec_move hx) ⟨rfl, hC, Tch.refl _ _⟩
    · have hx : fu.tmps[62]?.getD undef = .pointer (some ⟨r, 0, none⟩) := ev_tmp (hdep 6 62 (by show _ < 93; omega) (by kernel_rfl) (by kernel_rfl) (by decide))
      go_simp
      exact ⟨rfl, Tch.refl _ _⟩
    · have hx : fu.tmps[63]?.getD undef = .pointer (some ⟨r, 0, none⟩) := ev_tmp (hdep 7 63 (by show _ < 93; omega) (by kernel_rfl) (by kernel_rfl) (by decide))
      go_simp
      exact ⟨rfl, Tch.refl _ _⟩
    · have hx : fu.tmps[64]?.getD undef = .pointer (some ⟨r, 0, none⟩) := ev_tmp (hdep 8 64 (by show _ < 93; omega) (by kernel_rfl) (by kernel_rfl) (by decide))
      have c0 := cell_of_row w' r 0 _ _ _ hC.1.2.1.hr
      simp only [List.getElem?_toArray, List.getElem?_cons_zero] at c0
      go_simp
      exact ⟨rfl, Tch.refl _ _⟩
  intro vs5 w5 hC hK
  obtain ⟨k, cap5, h5, hk⟩ : ∃ k cap, vs5 5 = .slice (some ⟨k, 0, none⟩) R.2.2.lasts.length cap ∧ SecsIn w5 k R.2.2.lasts := hK 5 (by omega) (by omega)
  have h9 : vs5 9 = .slice (some ⟨a, 0, none⟩) R.2.2.lasts.length R.2.2.lasts.length := hK 9 (by omega) (by omega)
  have H5 := Lib.hid h5
  have H9 := Lib.hid h9
  have HC5 := Lib.hid hC
  have HK5 := Lib.hid hk
  clear hC hK h5 h9 hk
  unfold fullFrom
  rw [show (List.range' 4 (10 - 4)).map vs5 = [vs5 4, vs5 5, vs5 6, vs5 7, vs5 8, vs5 9] from rfl, H5.out, H9.out]
  generalize vs5 4 = v4
  generalize vs5 6 = v6
  generalize vs5 7 = v7
  generalize vs5 8 = v8
  refine rest_end (by kernel_rfl) ?_
  simp only [List.take_succ_cons, List.take_zero, List.drop_succ_cons, List.drop_zero, putAll]
  go_frame
  go_wp2_with fail
  have hsz5 : R.2.2.lasts.length ≤ 16384 := HC5.out.1.1.ok.size
  refine (eqSecs_any HK5.out (secsIn_whole HC5.out.1.2.1.hL) (by omega) (by omega)).mono ?_
  rintro e w6 ⟨rfl, t6⟩
  rw [decide_eq_true rfl]
  have P6 := Lib.hid (HC5.out.1.old t6)
  have T6 := Lib.hid (HC5.out.2.trans t6)
  clear t6 hsz5
  have T6' : Hid (Tch [] w w6) := by
    have k1 : Tch [] w (w2.alloc (.cells #[.pointer (some ⟨d, 0, none⟩), .pointer none, .pointer (some ⟨r, 0, none⟩), .pointer none] 44)).drew := T3.out.trans (((Tch.refl [] w2).alloc _).drew)
    have k2 := tch_own k1 TQ.out fun k hk => ?_
    · exact k2.trans T6.out
    · rcases List.mem_cons.1 hk with rfl | hk
      · exact T3.out.size
      · exact (NS.out k hk).1
  have hR' := Lib.hid hR
  clear hR hsz4 TQ HQ CP H1' H2 T3 NA H5 H9 HK5 HC5 T6 NS
  go_upto_block 2 with fail
  go_cut [10] from 69 to 91 (fun _ wx => Tch [] w wx)
  case first =>
    rcases P6.out.2.2 with ⟨hn, hp6⟩ | ⟨S, g, V, g2, O, B, hs, hp6, hl6, hx6, hok6⟩
    · have d3 : w6.cell? ⟨w2.heap.size, 3, none⟩ = some (.pointer none) := (cell_of_row w6 w2.heap.size 3 _ _ _ hp6).trans rfl
      go_wp2_with fail
      go_loopg [10] 0 (fun q i wr => q = 0 ∧ i = .int .i64 0 ∧ w6 = wr)
      case atStart => exact ⟨rfl, rfl, rfl⟩
      case round =>
        obtain ⟨rfl, rfl, rfl⟩ := hrel
        go_wp2_with fail
        go_meet
        exact T6'.out
    · have hlive : S.disk.Live := by
        have h := hR'.out
        refine opens_live LV.out ?_
        rw [h]; exact hs
      have PG := Lib.hid hok6.pages2
      have OKK := Lib.hid hok6
      have HLV := Lib.hid hlive.1
      have HP6 := Lib.hid hp6
      have HL6 := Lib.hid hl6
      have HX6 := Lib.hid hx6
      clear hs hlive hok6 hp6 hl6 hx6
      go_wp2_with fail
      go_loopg [10] S.pages (fun q i wr => ∃ j, OnAt S.pages i q j ∧ Tch [] w6 wr)
      case atStart => exact ⟨0, ⟨Nat.zero_le _, rfl, rfl⟩, Tch.refl _ _⟩
      case round =>
        obtain ⟨j, ⟨hj, rfl, rfl⟩, hT⟩ := hrel
        have hp := hT.heap HP6.out (by simp)
        have hl := HL6.out.touch hT (by simp) (by simp) (by simp) (by simp) (by simp)
        have hx := HX6.out.old hT
        have d3 : wr.cell? ⟨w2.heap.size, 3, none⟩ = some (.pointer (some ⟨g2, 0, none⟩)) := (cell_of_row wr w2.heap.size 3 _ _ _ hp).trans rfl
        have d2 := hx.cell 2 rfl
        have CD : Hid (j < S.pages → Calls Tryz.prog 11 #[.pointer (some ⟨w2.heap.size, 0, none⟩), .agg #[.int .i64 3, .int .i64 j, .slice none 0 0, .slice none 0 0]] wr fun e w' => e = .returned (.bool true) ∧ Tch [] wr w') := fun h => doesRead_any hp hl hx OKK.out HLV.out j h
        have HT := Lib.hid hT
        have hpg : S.pages ≤ 16384 := PG.out
        generalize S.pages = m at *
        clear hp hl hx hT
        by_cases hjn : j < m
        · go_wp2_with (go_at_call 11; refine (CD.out hjn).mono ?_; rintro e w7 ⟨rfl, t7⟩; have T7 := Lib.hid (HT.out.trans t7); clear t7)
          go_roundg (m - (j + 1))
          case measure => omega
          case rel => exact ⟨j + 1, ⟨by omega, by go_num, rfl⟩, T7.out⟩
        · go_wp2_with fail
          go_meet
          exact T6'.out.trans HT.out
  case rest =>
  have T8 := Lib.hid hcut
  clear hcut P6 T6' hR'
  go_wp2_with (go_at_call 4; refine (WK.out _).mono ?_; rintro e w9 ⟨rfl, hq1⟩; have T9 := Lib.hid (T8.out.trans hq1); clear hq1)
  go_ret
  exact ⟨rfl, T9.out⟩

theorem walOpens_any (w : World) (ra : Option Addr) (cap : Nat) (vs : List RawV) (ho : RawsAt w ra vs) :
    Calls Tryz.prog 3 #[.slice ra vs.length cap] w fun e w' => e = .returned (.bool true) ∧ Tch [] w w' := by
  by_cases h1 : 60 < vs.length
  · exact walOpens_big w ra cap _ h1
  · by_cases h2 : vs.length = 0
    · rw [h2]; exact walOpens_none w ra cap
    · exact walOpens_in w ra cap vs ho (by omega) (by omega)
end Go.Proofs.YthbaipljlbddcaaGreat
/-
  Over any sectors a log is found, or is none, as the document says, and the disk is then what it says: WalOpens answers true at every input. No condition.
-/
namespace Go.Proofs.YthbaipljlbddcaaGreat
open Go.ChangeShapes Go.WideShapes Go.ChangeAt Go.RowKit Go.Cib
open Go.ChangeMaps (open_string shut_string)

section
variable {H : Type} {enc : TypeId × Value → H} {w : World}
theorem cellsRaw : Tryz.prog.cellsOf 31 = 8 := by kernel_rfl
theorem cellsU8 : Tryz.prog.cellsOf 5 = 1 := by kernel_rfl
theorem cellsU32r : Tryz.prog.cellsOf 28 = 1 := by kernel_rfl
theorem cellsU64 : Tryz.prog.cellsOf 27 = 1 := by kernel_rfl
set_option maxRecDepth 20000 in
/-- One sector as it is laid. -/
theorem raw_of_trod {fuel : Nat} {cs : List Value} {x : DataW H × List MemPlace} (h : DataW.trod enc Tryz.prog w 0 (fun _ => true) true fuel 31 cs = some x) :
    ∃ v : RawV, cs = [.int .u8 v.kind.toNat, .int .u64 v.gen, .int .u64 v.num, .int .u32 v.idx, .slice v.na v.nums.length v.ncap, .string v.text, .int .i64 v.at_, .int .u8 v.turn.toNat] ∧ RawOk w v := by
  obtain ⟨xs, n, _, _, hl, hlen, hf⟩ := DataW.trod_struct Tryz.underlying31 h
  rw [cellsRaw] at hl
  match xs, hlen with
  | [y0, y1, y2, y3, y4, y5, y6, y7], _ =>
    match cs, hl with
    | [v0, v1, v2, v3, v4, v5, v6, v7], _ =>
      have g0 : DataW.trod enc Tryz.prog w 0 (fun _ => true) true n 5 [v0] = some y0 := by simpa [cellsU8] using hf 0 _ rfl
      have g1 : DataW.trod enc Tryz.prog w 0 (fun _ => true) true n 27 [v1] = some y1 := by simpa [cellsU8, cellsU64] using hf 1 _ rfl
      have g2 : DataW.trod enc Tryz.prog w 0 (fun _ => true) true n 27 [v2] = some y2 := by simpa [cellsU8, cellsU64] using hf 2 _ rfl
      have g3 : DataW.trod enc Tryz.prog w 0 (fun _ => true) true n 28 [v3] = some y3 := by simpa [cellsU8, cellsU64, cellsU32r] using hf 3 _ rfl
      have g4 : DataW.trod enc Tryz.prog w 0 (fun _ => true) true n 29 [v4] = some y4 := by simpa [cellsU8, cellsU64, cellsU32r, cellsInts] using hf 4 _ rfl
      have g5 : DataW.trod enc Tryz.prog w 0 (fun _ => true) true n 9 [v5] = some y5 := by simpa [cellsU8, cellsU64, cellsU32r, cellsInts, cellsStr] using hf 5 _ rfl
      have g6 : DataW.trod enc Tryz.prog w 0 (fun _ => true) true n 3 [v6] = some y6 := by simpa [cellsU8, cellsU64, cellsU32r, cellsInts, cellsStr, cellsInt] using hf 6 _ rfl
      have g7 : DataW.trod enc Tryz.prog w 0 (fun _ => true) true n 5 [v7] = some y7 := by simpa [cellsU8, cellsU64, cellsU32r, cellsInts, cellsStr, cellsInt] using hf 7 _ rfl
      obtain ⟨a0, e0, _, b0⟩ := DataW.trod_int Tryz.underlying5 g0
      obtain ⟨a1, e1, _, b1⟩ := DataW.trod_int Tryz.underlying27 g1
      obtain ⟨a2, e2, _, b2⟩ := DataW.trod_int Tryz.underlying27 g2
      obtain ⟨a3, e3, _, b3⟩ := DataW.trod_int Tryz.underlying28 g3
      obtain ⟨a4, l4, c4, e4, h4, h5, _⟩ := ints_of_trod Tryz.underlying29 Tryz.underlying3 cellsInt g4
      obtain ⟨a5, e5, _, b5⟩ := DataW.trod_string Tryz.underlying9 g5
      obtain ⟨a6, e6, _, _⟩ := DataW.trod_int Tryz.underlying3 g6
      obtain ⟨a7, e7, _, b7⟩ := DataW.trod_int Tryz.underlying5 g7
      simp only [List.cons.injEq, and_true] at e0 e1 e2 e3 e5 e6 e7
      subst e0 e1 e2 e3 e4 e5 e6 e7
      simp only [Lit.wf, Bool.and_eq_true, decide_eq_true_eq] at b0 b1 b2 b3 b7
      have d0 : 0 ≤ a0 ∧ a0 ≤ 255 := b0
      have d1 : 0 ≤ a1 ∧ a1 ≤ 18446744073709551615 := b1
      have d2 : 0 ≤ a2 ∧ a2 ≤ 18446744073709551615 := b2
      have d3 : 0 ≤ a3 ∧ a3 ≤ 4294967295 := b3
      have d7 : 0 ≤ a7 ∧ a7 ≤ 255 := b7
      have u8 : ∀ a : Int, 0 ≤ a ∧ a ≤ 255 → a = ((UInt8.ofNat a.toNat).toNat : Int) := fun a ha => by
        rw [UInt8.toNat_ofNat', Nat.mod_eq_of_lt (by omega), Int.toNat_of_nonneg ha.1]
      refine ⟨⟨UInt8.ofNat a0.toNat, a1.toNat, a2.toNat, a3.toNat, a4, l4, c4, a5, a6, UInt8.ofNat a7.toNat⟩, ?_, ⟨?_, ?_, ?_, h4, ?_, ?_⟩⟩
      · rw [← u8 a0 d0, ← u8 a7 d7, Int.toNat_of_nonneg d1.1, Int.toNat_of_nonneg d2.1, Int.toNat_of_nonneg d3.1]
      · show a1.toNat < 18446744073709551616; omega
      · show a2.toNat < 18446744073709551616; omega
      · show a3.toNat < 4294967296; omega
      · unfold maxLen at h5; exact (by omega : l4.length ≤ 9223372036854775807)
      · unfold maxLen at b5; exact (by omega : a5.size ≤ 9223372036854775807)
/-- All of them. -/
theorem raws_of_trod {fuel : Nat} {v : Value} {x : DataW H × List MemPlace} (h : DataW.trod enc Tryz.prog w 0 (fun _ => true) true fuel 22 [v] = some x) :
    ∃ (a : Option Addr) (os : List RawV) (cap : Nat), v = .slice a os.length cap ∧ RawsAt w a os ∧ os.length ≤ maxLen := by
  rcases Deep.open_slice Tryz.underlying22 h with ⟨hcs, _⟩ | ⟨a, len, cap, m, n, D, Pl, hcs, _, hl, hm, hmm, _, hel⟩
  · simp at hcs
    exact ⟨none, [], 0, hcs, by intro j x hj; simp at hj, by simp⟩
  · simp at hcs hmm
    rw [cellsRaw] at hel
    have hall : ∀ i, i < len → ∃ v : RawV, w.cells? 0 (a.add (i * 8)) 8 = some [.int .u8 v.kind.toNat, .int .u64 v.gen, .int .u64 v.num, .int .u32 v.idx, .slice v.na v.nums.length v.ncap, .string v.text, .int .i64 v.at_, .int .u8 v.turn.toNat] ∧ RawOk w v := by
      intro i hi
      obtain ⟨cs', h1, h2⟩ := hel i (by omega)
      obtain ⟨o, rfl, h3⟩ := raw_of_trod h2
      exact ⟨o, h1, h3⟩
    haveI : Inhabited RawV := ⟨⟨0, 0, 0, 0, none, [], 0, ByteArray.empty, 0, 0⟩⟩
    obtain ⟨f, hf⟩ := Deep.choose_lt hall
    refine ⟨some a, (List.range len).map f, cap, by simpa using hcs, fun j o hj => ?_, by simp; omega⟩
    have hjl := (List.getElem?_eq_some_iff.1 hj).1
    simp only [List.length_map, List.length_range] at hjl
    have ho : f j = o := by simpa [hjl] using hj
    obtain ⟨h1, h2⟩ := hf j hjl
    rw [ho] at h1 h2
    obtain ⟨_, hc⟩ := cells_get h1
    obtain ⟨_, hc0⟩ := cells_get (hf 0 (by omega)).1
    obtain ⟨b, off, hb⟩ := plain_addr (hc0 0 _ rfl)
    simp only [Nat.zero_mul, Addr.add_zero'] at hb
    subst hb
    have k0 := hc 0 _ rfl
    have k1 := hc 1 _ rfl
    have k2 := hc 2 _ rfl
    have k3 := hc 3 _ rfl
    have k4 := hc 4 _ rfl
    have k5 := hc 5 _ rfl
    have k6 := hc 6 _ rfl
    have k7 := hc 7 _ rfl
    simp only [add_mk, Nat.add_zero] at k0 k1 k2 k3 k4 k5 k6 k7
    exact ⟨b, off, rfl, k0, k1, k2, k3, k4, k5, k6, k7, h2⟩
end

set_option maxRecDepth 100000 in
set_option maxHeartbeats 1000000 in
theorem walOpens_lifted (os : Os) (started : os.Started) (H : Type) (enc : TypeId × Value → H) :
    ReturnsInHanded {} Tryz.checked os 3 .any (Rows.walOpensSpec.pre6 enc Tryz.prog Tryz.f3 Rows.walOpensRow.domain false) (Rows.walOpensSpec.post enc Tryz.prog Tryz.f3 false true false false) := by
  refine returnsInHanded_of_change (C := Tryz.checked) own started (by kernel_rfl) Tryz.func3
    (ChangeSpec.witness6 (enc := enc) (C := Tryz.checked) false ⟨#[], #[.slice none 0 0], []⟩ 8 (by kernel_rfl) (by kernel_rfl) (by kernel_rfl) (by kernel_rfl)) ?_
  intro W base args ds gs before hval0 hW _ _
  have hval : ∀ (j : Nat) t v, Tryz.f3.params[j]? = some t → args[j]? = some v → Value.okWide Tryz.prog W .any base t v := hval0
  have hW' := hW
  obtain ⟨p, q, hA0, hV, rfl, _, _⟩ := hW
  have hA : DataW.TrodAll enc Tryz.prog W 0 (fun _ => true) true Tryz.f3.params.toList args.toList ds p := hA0
  rw [Tryz.params3] at hA hval
  obtain ⟨v0, vs0, d0, ds0, p0, q0, hargs, rfl, rfl, h0, r0⟩ := trodAll_cons hA
  obtain ⟨rfl, rfl, rfl⟩ := trodAll_nil r0
  obtain rfl : args = #[v0] := by cases args; simp_all
  obtain ⟨rfl, rfl⟩ := trodVars_none hV
  obtain ⟨a0, l0, c0, rfl⟩ := okWide_slice Tryz.underlying22 (hval 0 22 v0 rfl rfl)
  have k0 := h0
  have lt0 : ∀ x ∈ p0, x.block < W.heap.size := by obtain ⟨m, hm⟩ := k0; exact DataW.trod_lt m _ _ _ hm
  obtain ⟨fuel0, hf0⟩ := h0
  obtain ⟨x0, os0, y0, e0, g0, s0⟩ := raws_of_trod hf0
  cases e0
  clear hA0 hval0
  refine (walOpens_any W a0 c0 os0 g0).mono fun e W' ⟨he, ht⟩ => ?_
  subst he
  have bel : Below W.heap.size W W' := ht.below (Nat.le_refl _) (by simp)
  exact ⟨_, rfl, _, _, _, [], _, [], hW', trodAll_mk1 (shut_bool Tryz.underlying4 _), (trodAll_cons_mk (Below.trod laidOut (by kernel_rfl) (of_decide_eq_true (by kernel_rfl)) k0 bel lt0) trodAll_mk0), rfl, bel.frame _, fun h => by cases h⟩

theorem walOpens_holds : Rows.WalOpensSaid :=
  OpenClaim.holds_of_wide 3 Tryz.f3 rfl rfl rfl rfl rfl rfl rfl ⟨rfl, rfl, rfl, rfl, rfl⟩ rfl rfl rfl rfl rfl (by kernel_rfl) Tryz.func3 (by kernel_rfl)
    (of_decide_eq_true (by kernel_rfl)) (by unfold Func.isWrapper; first | (rw [if_pos (by decide +kernel)]; kernel_rfl) | (rw [if_neg (by decide +kernel)]; exact ⟨rfl, rfl⟩))
    (fun os started H enc _ => walOpens_lifted os started H enc)
#print axioms walOpens_holds
end Go.Proofs.YthbaipljlbddcaaGreat
