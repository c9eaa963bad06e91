/-
  The pages that a list names: package wal's listed.
-/
import Derived.Test.YthbaipljlbddcaaGreatImgs
import Derived.Test.YthbaipljlbddcaaGreatLogP
import Derived.Test.YthbaipljlbddcaaGreatRegAll
import Derived.Test.YthbaipljlbddcaaGreatDiskAll
import Derived.ProofKit
import Derived.OpenShut
import Derived.ShutString
import Derived.ChangeOld
import Derived.Deep.Slices
import Derived.Deep.Strs
namespace Go.Cib
open Go Go.RowKit
section
variable {P : Program} {T S e : TypeId} {ops : Array Oper} {rest : List Oper} {a : Act} {w : World} {Q : Exit → Act → World → Prop} {C : World → Prop} {Qs : Act → Prop} {dst : Option Tmp} {ty : TypeId} {pos : String} {af : Array Edge} {x y : Operand} {gd : Option (Nat × Bool)}
theorem frame_page_ex (f : FrameV) : (frameA f).extract 4 (4 + 480) = secA f.page := by
  apply Array.toList_inj.1
  rw [Array.toList_extract, List.extract_eq_take_drop]
  have h1 : (frameA f).toList = [bv f.kind, .int .u64 f.gen, .int .u64 f.num, .int .u32 f.idx] ++ (secA f.page).toList := by simp [frameA]
  rw [h1, List.drop_left' (by rfl), List.take_of_length_le (by rw [Array.length_toList, size_secA]; omega)]
theorem exec_load_framepage (hT : AggT P T 480) {f : FrameV} {b : Nat} {e' : TypeId} {fr : Nat × Nat} {o : Oper} (ho : o.op = .load T x) (hb : w.heap[b]? = some (.cells (frameA f) e' fr)) (hx : a.eval x = .pointer (some ⟨b, 4, none⟩)) :
    (execOp a.eval o).run P w = .ok (.value (.agg (secA f.page))) w := by
  rw [exec_load_agg hT ho hx hb (by rw [size_frameA]; omega), frame_page_ex]
theorem wc_load_framepage (hT : AggT P T 480) {f : FrameV} {b : Nat} {e' : TypeId} {fr : Nat × Nat} (hb : w.heap[b]? = some (.cells (frameA f) e' fr)) (hx : a.eval x = .pointer (some ⟨b, 4, none⟩))
    (h : wpList P ops Q rest (a.put dst (.agg (secA f.page))) w) : wpList P ops Q (⟨dst, .load T x, ty, pos, af, none⟩ :: rest) a w :=
  wc_value rfl (exec_load_framepage hT rfl hb hx) h
theorem wq_load_framepage (hT : AggT P T 480) {f : FrameV} {b : Nat} {e' : TypeId} {fr : Nat × Nat} (hb : ∀ w, C w → w.heap[b]? = some (.cells (frameA f) e' fr)) (hw : Region.wanted ⟨dst, .load T x, ty, pos, af, gd⟩ (yielded ops a.tmps) = true) (hx : a.eval x = .pointer (some ⟨b, 4, none⟩))
    (h : wpQuiet P ops C Qs rest (a.put dst (.agg (secA f.page)))) : wpQuiet P ops C Qs (⟨dst, .load T x, ty, pos, af, gd⟩ :: rest) a :=
  wq_value hw (fun w hc => exec_load_framepage hT rfl (hb w hc) hx) h
theorem wc_slice_img (hz : ∃ i, P.info? T = some i ∧ i.zero = some (.agg (imageA 0 Arr.zero)) ∧ i.size = 481 ∧ i.bytes ≤ 600) (hS : P.underlying S = some (.slice T)) {n : Int} {p : Page} (hx : a.eval x = .agg (imageA n p))
    (h : wpList P ops Q rest (a.put dst (.slice (some ⟨w.heap.size, 0, none⟩) 1 1)) (w.alloc (.cells (imageA n p) T))) : wpList P ops Q (⟨dst, .buildSlice S 1 #[(0, x)], ty, pos, af, none⟩ :: rest) a w := by
  obtain ⟨i, h1, h2, h3, _⟩ := hz
  refine wc_value rfl ?_ h
  have hf := fill_one (c := (Array.range (1 * 481)).map (((Value.agg (imageA 0 Arr.zero)).cells)[· % ((Value.agg (imageA 0 Arr.zero)).cells).size]!)) (v := imageA n p) (m := 481) (by simp) (size_imageA n p)
  rw [Nat.one_mul] at hf
  generalize imageA n p = v at *
  generalize imageA 0 Arr.zero = z at *
  unfold execOp
  simp only [Instr.buildSlice, List.map_toArray, List.map_cons, List.map_nil, hx]
  simp [Sem.run_bind, run_underlying hS, sizeOf, typeInfo, zeroValue, h1, h2, h3, hf, newRow]
end
end Go.Cib
namespace Go.Proofs.YthbaipljlbddcaaGreat
open Go.RowKit Go.Cib
theorem imgInfo : ∃ i, Tryz.prog.info? 68 = some i ∧ i.zero = some (.agg (imageA 0 Arr.zero)) ∧ i.size = 481 ∧ i.bytes ≤ 600 := by
  have h : (Tryz.prog.info? 68).map (fun i => (i.zero, i.size, decide (i.bytes ≤ 600))) = some (some (.agg (imageA 0 Arr.zero)), 481, true) := by kernel_rfl
  obtain ⟨i, h1, h2⟩ := Option.map_eq_some_iff.1 h
  simp only [Prod.mk.injEq, decide_eq_true_eq] at h2
  exact ⟨i, h1, h2⟩
theorem imgsS : Tryz.prog.underlying 69 = some (.slice 68) := by kernel_rfl

set_option maxRecDepth 20000 in
set_option maxHeartbeats 400000 in
theorem index_any {w : World} {a : Option Addr} {cap : Nat} {l : List Nat} (h : NumsAt w a l) (x : Nat) (hl : l.length ≤ 1000) :
    Calls Tryz.prog 109 #[.slice a l.length cap, .int .u32 x] w fun e w' => (∃ r : Int, e = .returned (.int .i64 r) ∧ (x ∈ l → 0 ≤ r) ∧ (x ∉ l → r < 0)) ∧ w = w' := by
  obtain ⟨m, hm⟩ : ∃ m, l.length = m := ⟨_, rfl⟩
  rw [hm] at hl ⊢
  have HM := Lib.hid hm
  have HH := Lib.hid h
  clear hm h
  go_enter Tryz.func109, Tryz.ntmps109
  go_wp2_with fail
  go_loopg [8] m (fun q i wr => ∃ j, OnAt m i q j ∧ wr = w ∧ x ∉ l.take j)
  case atStart => exact ⟨0, ⟨Nat.zero_le _, rfl, rfl⟩, rfl, by simp⟩
  case round =>
    obtain ⟨j, ⟨hj, rfl, rfl⟩, rfl, hx⟩ := hrel
    have HX := Lib.hid hx
    clear hx
    by_cases hjm : j < m
    · obtain ⟨n, hn⟩ : ∃ n, l[j]? = some n := ⟨_, List.getElem?_eq_getElem (by rw [HM.out]; exact hjm)⟩
      obtain ⟨b, o, rfl, hc⟩ := HH.out j n hn
      have HN := Lib.hid hn
      clear hn
      by_cases hxn : x = n
      · have hb : ((x : Int) == n) = true := by simp [hxn]
        have HXN := Lib.hid hxn
        clear hxn
        go_wp2_with fail
        go_ret
        refine ⟨⟨_, rfl, fun _ => by omega, fun hnm => absurd (HXN.out ▸ List.mem_of_getElem? HN.out) hnm⟩, rfl⟩
      · have hb : ((x : Int) == n) = false := by simp; omega
        have HXN := Lib.hid hxn
        clear hxn
        go_wp2_with fail
        go_roundg (m - (j + 1))
        case measure => omega
        case rel =>
          refine ⟨j + 1, ⟨by omega, by go_num, rfl⟩, rfl, ?_⟩
          rw [List.take_add_one, HN.out]
          intro hm
          rcases List.mem_append.1 hm with h1 | h1
          · exact HX.out h1
          · simp at h1; exact HXN.out h1
    · have hfull : l.take j = l := List.take_of_length_le (by rw [HM.out]; omega)
      rw [hfull] at HX
      clear hfull
      go_wp2_with fail
      go_ret
      exact ⟨⟨_, rfl, fun hm => absurd hm HX.out, fun _ => by decide⟩, rfl⟩
set_option maxRecDepth 20000 in
set_option maxHeartbeats 400000 in
theorem contains_any {w : World} {a : Option Addr} {cap : Nat} {l : List Nat} (h : NumsAt w a l) (x : Nat) (hl : l.length ≤ 1000) :
    Calls Tryz.prog 93 #[.slice a l.length cap, .int .u32 x] w fun e w' => e = .returned (.bool (decide (x ∈ l))) ∧ w = w' := by
  have CI := Lib.hid (index_any (cap := cap) h x hl)
  obtain ⟨m, hm⟩ : ∃ m, l.length = m := ⟨_, rfl⟩
  rw [hm] at CI ⊢
  clear h hl hm
  by_cases hx : x ∈ l
  · have HX := Lib.hid hx
    clear hx
    go_enter Tryz.func93, Tryz.ntmps93
    go_wp2_with (go_at_call 109; refine CI.out.mono ?_; rintro e w' ⟨⟨r, rfl, q1, q2⟩, rfl⟩; have hr : 0 ≤ r := q1 HX.out; clear q1 q2)
    go_ret
    exact ⟨by rw [decide_eq_true HX.out]; first | rfl | (rw [← decide_eq_true hr]; rfl), rfl⟩
  · have HX := Lib.hid hx
    clear hx
    go_enter Tryz.func93, Tryz.ntmps93
    go_wp2_with (go_at_call 109; refine CI.out.mono ?_; rintro e w' ⟨⟨r, rfl, q1, q2⟩, rfl⟩; have hr : ¬ 0 ≤ r := (by have := q2 HX.out; omega); clear q1 q2)
    go_ret
    exact ⟨by rw [decide_eq_false HX.out]; first | rfl | (rw [← decide_eq_false (show ¬ 0 ≤ r by omega)]; rfl), rfl⟩
end Go.Proofs.YthbaipljlbddcaaGreat
/-
  The pages that a list names: package wal's listed.
-/
namespace Go.Cib
open Go Go.RowKit
theorem numAt_lt (p : Page) (i : Nat) : numAt p i < 4294967296 := by
  unfold numAt
  have h1 := beVal_lt ((p.l.drop (4 * i)).take 4)
  have h2 : ((p.l.drop (4 * i)).take 4).length ≤ 4 := by simp; omega
  have h3 := Nat.pow_le_pow_right (show 0 < 256 by decide) h2
  omega
theorem own_apart {w : World} {B B' : Nat} {e e' : TypeId} {v v' : Value} {l : List Value} {ls : List (Int × Page)} (h : OwnVals w B e v l) (h' : OwnImgs w B' e' v' ls) (hne : e' ≠ e) : ∀ g, v'.ownBlock = some g → g ∉ v.ownBlock.toList := by
  intro g hg
  rcases h'.shape with ⟨rfl, _⟩ | ⟨g', cap, cur, rfl, _, hb, _⟩
  · simp [Value.ownBlock] at hg
  · simp [Value.ownBlock] at hg
    subst hg
    exact h.ne hb hne
theorem own_apart' {w : World} {B B' : Nat} {e e' : TypeId} {v v' : Value} {l : List Value} {ls : List (Int × Page)} (h : OwnVals w B e v l) (h' : OwnImgs w B' e' v' ls) (hne : e' ≠ e) : ∀ g, v.ownBlock = some g → g ∉ v'.ownBlock.toList := by
  intro g hg hm
  exact own_apart h h' hne g (by simpa using hm) (by rw [hg]; simp)
end Go.Cib
namespace Go.Proofs.YthbaipljlbddcaaGreat
open Go.RowKit Go.Cib
/-- What the loop of listed has gathered. -/
structure LstR (W wr : World) (pages : Nat) (l : List Nat) (v6 v7 : Value) : Prop where
  nums : OwnVals wr W.heap.size 28 v6 (l.map fun (n : Nat) => .int .u32 (n : Int))
  imgs : OwnImgs wr W.heap.size 68 v7 (l.map fun (n : Nat) => ((n : Int), (Arr.zero : Page)))
  tch : Tch [] W wr
  lt : ∀ n ∈ l, n < pages
  nd : l.Nodup
set_option maxRecDepth 20000 in
theorem cf_numbers2 (args : Array Value) (w : World) : (callFunc 71 args).run Tryz.prog w = .ok (.enter 71 args) w := rfl

set_option maxRecDepth 20000 in
set_option maxHeartbeats 2000000 in
theorem listed_any {w : World} {g d L M V : Nat} {S : LogS} (h : LogAt w g d L M V S) (f : FrameV) (hidx : f.idx ≤ 120) :
    Calls Tryz.prog 74 #[.pointer (some ⟨g, 0, none⟩), .agg (frameA f)] w fun e w' => Tch [] w w' ∧ ∃ v, e = .returned (.tuple #[v, .bool (S.listed f)]) ∧
      (S.listed f = true → OwnImgs w' w.heap.size 68 v ((LogS.names f).map fun (n : Nat) => ((n : Int), (Arr.zero : Page)))) := by
  obtain ⟨W, hW⟩ : ∃ W, w.alloc (.cells (frameA f) 105) = W := ⟨_, rfl⟩
  have tW : Tch [] w W := by rw [← hW]; exact (Tch.refl _ _).alloc _
  have bW : W.heap[w.heap.size]? = some (.cells (frameA f) 105) := by rw [← hW]; exact heap_alloc_new _ _
  have h1 := h.touch tW (by simp) (by simp) (by simp) (by simp) (by simp)
  obtain ⟨_, _, _, c3⟩ := frame_cell bW
  obtain ⟨m, hm⟩ : ∃ m, f.idx = m := ⟨_, rfl⟩
  rw [hm] at c3 hidx
  have hwW : w.heap.size ≤ W.heap.size := tW.size
  have HW := Lib.hid hW
  have TW := Lib.hid tW
  have BW := Lib.hid bW
  have H1 := Lib.hid h1
  have HM := Lib.hid hm
  clear hW tW bW h1 h hm
  go_enter Tryz.func74, Tryz.ntmps74
  go_upto_region 1 with ((with_reducible refine wc_box_agg ?_ ?_); exact rfl; go_frame)
  rw [HW.out]
  go_wp2_with fail
  go_loopg [6, 7, 13] m (fun q v6 v7 i wr => ∃ j, OnAt m i q j ∧ LstR W wr S.pages ((List.range j).map (numAt f.page)) v6 v7)
  case atStart => exact ⟨0, ⟨Nat.zero_le _, rfl, rfl⟩, ⟨ownVals_nil _ _ _, ownImgs_nil _ _ _, Tch.refl _ _, by simp, by simp⟩⟩
  case round =>
    obtain ⟨j, ⟨hj, rfl, rfl⟩, hr⟩ := hrel
    have hwr := hr.tch.size
    have hlr := H1.out.touch hr.tch (by simp) (by simp) (by simp) (by simp) (by simp)
    have c2 := hlr.cell 2 rfl
    have bR := Lib.hid (hr.tch.heap BW.out (by simp))
    have HL := Lib.hid hlr
    have R := Lib.hid hr
    obtain ⟨na, ncap, hv6, hvals, _⟩ := hr.nums.vals
    have hlen : (((List.range j).map (numAt f.page)).map fun (n : Nat) => Value.int .u32 (n : Int)).length = j := by simp
    rw [hlen] at hv6
    have NA : Hid (NumsAt wr na ((List.range j).map (numAt f.page))) := fun i x hi => by
      obtain ⟨b, o, hb, hc⟩ := hvals i (.int .u32 x) (by rw [List.getElem?_map, hi]; rfl)
      exact ⟨b, o, hb, hc⟩
    clear hlr hvals hlen
    by_cases hjm : j < m
    · obtain ⟨n, hn⟩ : ∃ n, numAt f.page j = n := ⟨_, rfl⟩
      have hn32 : n < 4294967296 := by rw [← hn]; exact numAt_lt _ _
      have hnext : (List.range (j + 1)).map (numAt f.page) = (List.range j).map (numAt f.page) ++ [n] := by rw [List.range_succ, List.map_append, ← hn]; rfl
      have hnm : LogS.names f = (List.range j).map (numAt f.page) ++ (n :: ((List.range' (j + 1) (m - (j + 1))).map (numAt f.page))) := by
        unfold LogS.names
        rw [HM.out, List.range_eq_range', List.range_eq_range', ← hn]
        have : List.range' 0 m = List.range' 0 j ++ (j :: List.range' (j + 1) (m - (j + 1))) := by
          have e1 := List.range'_append_1 (s := 0) (m := j) (n := m - j)
          rw [show j + (m - j) = m by omega, Nat.zero_add] at e1
          rw [← e1]
          congr 1
          rw [show m - j = (m - (j + 1)) + 1 by omega, List.range'_succ]
        rw [this]
        simp
      have CP : Hid (Calls Tryz.prog 72 #[.agg (secA f.page), .int .i64 j] wr fun e w' => e = .returned (.int .u32 n) ∧ Tch [] wr w') := by
        rw [← hn]; exact pnumber_any f.page j (by omega) wr
      have HN := Lib.hid hn
      have HNX := Lib.hid hnext
      have HNM := Lib.hid hnm
      clear hn hnext hnm
      subst hv6
      by_cases hp : S.pages ≤ n
      · have hb : S.listed f = false := by
          unfold LogS.listed
          rw [decide_eq_false (fun hh => by have := hh n (by rw [HNM.out]; simp); omega)]; rfl
        have hp' : ((S.pages : Int) ≤ n) := by omega
        have HB := Lib.hid hb
        clear hb
        go_wp2_with (first | ((with_reducible apply wc_load_framepage pageT.agg bR.out); exact rfl; go_frame) | (go_at_call 72; refine CP.out.mono ?_; rintro e w2 ⟨rfl, q1⟩; have c22 := cell_old q1 c2; have T2 := Lib.hid q1; clear q1))
        go_ret2
        refine ⟨TW.out.trans (R.out.tch.trans T2.out), _, by rw [HB.out]; rfl, fun hh => ?_⟩
        rw [HB.out] at hh; cases hh
      by_cases hmem : n ∈ (List.range j).map (numAt f.page)
      · have hb : S.listed f = false := by
          unfold LogS.listed
          have : ¬ (LogS.names f).Nodup := by
            rw [HNM.out]
            intro hh
            exact (List.nodup_append.1 hh).2.2 n hmem n (by simp) rfl
          rw [decide_eq_false this]; simp
        have hp' : ¬ ((S.pages : Int) ≤ n) := by omega
        have HB := Lib.hid hb
        have CC : Hid (∀ w2, Tch [] wr w2 → Calls Tryz.prog 93 #[.slice na j ncap, .int .u32 n] w2 fun e w' => e = .returned (.bool true) ∧ w2 = w') := fun w2 t2 => by
          have := contains_any (cap := ncap) (NA.out.later t2) n (by simp; omega)
          rw [List.length_map, List.length_range, decide_eq_true hmem] at this
          exact this
        clear hb hmem
        go_wp2_with (first | ((with_reducible apply wc_load_framepage pageT.agg bR.out); exact rfl; go_frame) | (go_at_call 72; refine CP.out.mono ?_; rintro e w2 ⟨rfl, q1⟩; have c22 := cell_old q1 c2; have T2 := Lib.hid q1; clear q1) | (go_at_call 93; refine (CC.out _ T2.out).mono ?_; rintro e w3 ⟨rfl, rfl⟩))
        go_ret2
        refine ⟨TW.out.trans (R.out.tch.trans T2.out), _, by rw [HB.out]; rfl, fun hh => ?_⟩
        rw [HB.out] at hh; cases hh
      · have hp' : ¬ ((S.pages : Int) ≤ n) := by omega
        have HMEM := Lib.hid hmem
        have CC : Hid (∀ w2, Tch [] wr w2 → Calls Tryz.prog 93 #[.slice na j ncap, .int .u32 n] w2 fun e w' => e = .returned (.bool false) ∧ w2 = w') := fun w2 t2 => by
          have := contains_any (cap := ncap) (NA.out.later t2) n (by simp; omega)
          rw [List.length_map, List.length_range, decide_eq_false hmem] at this
          exact this
        clear hmem
        go_upto_region 9 with (first | ((with_reducible apply wc_load_framepage pageT.agg bR.out); exact rfl; go_frame) | (go_at_call 72; refine CP.out.mono ?_; rintro e w2 ⟨rfl, q1⟩; have c22 := cell_old q1 c2; have T2 := Lib.hid q1; clear q1) | (go_at_call 93; refine (CC.out _ T2.out).mono ?_; rintro e w3 ⟨rfl, rfl⟩))
        have hw2 := T2.out.size
        have O5 : Hid (OwnVals (w2.alloc (.cells #[.int .u32 n] 28)) W.heap.size 28 (.slice na j ncap) (((List.range j).map (numAt f.page)).map fun (n : Nat) => .int .u32 (n : Int))) := (R.out.nums.kept T2.out (by simp)).kept ((Tch.refl [] _).alloc _) (by simp)
        have I5 : Hid (OwnImgs (w2.alloc (.cells #[.int .u32 n] 28)) W.heap.size 68 u7 (((List.range j).map (numAt f.page)).map fun (n : Nat) => ((n : Int), (Arr.zero : Page)))) := (R.out.imgs.kept T2.out (by simp)).kept ((Tch.refl [] _).alloc _) (by simp)
        have V5 : Hid (ValsAt (w2.alloc (.cells #[.int .u32 n] 28)) (some ⟨w2.heap.size, 0, none⟩) [.int .u32 n]) := valsAt_row (heap_alloc_new _ _)
        have T5 : Hid (Tch [] W (w2.alloc (.cells #[.int .u32 n] 28))) := (R.out.tch.trans T2.out).alloc _
        go_upto_region 10 with ((with_reducible apply wc_append_vals u32sT (by decide) (m := [.int .u32 n]) O5.out (by simp; omega) (by simp; omega)); exact rfl; exact rfl; exact rfl; exact rfl; exact V5.out; (intro u hu; simp at hu; subst hu; rfl); intro v7 w7 ho7 ht7; go_frame; have HO7 := Lib.hid ho7; have I7 := Lib.hid (I5.out.kept ht7 (own_apart O5.out I5.out (by decide))); have T7 := Lib.hid (tch_own T5.out ht7 (fun k hk => (O5.out.lt k hk).1)); clear ho7 ht7)
        have hw7 := T7.out.size
        have FI : Hid (fillI 0 Arr.zero [(0, .int .i64 n)] = some (imageA n Arr.zero)) := by show fillI 0 Arr.zero [(0, .int .i64 n)] = _; rw [fillI_num, fillI_nil]
        have O8 : Hid (OwnVals (w7.alloc (.cells (imageA n Arr.zero) 68)) W.heap.size 28 v7 ((((List.range j).map (numAt f.page)).map fun (n : Nat) => .int .u32 (n : Int)) ++ [.int .u32 n])) := HO7.out.kept ((Tch.refl [] _).alloc _) (by simp)
        have I8 : Hid (OwnImgs (w7.alloc (.cells (imageA n Arr.zero) 68)) W.heap.size 68 u7 (((List.range j).map (numAt f.page)).map fun (n : Nat) => ((n : Int), (Arr.zero : Page)))) := I7.out.kept ((Tch.refl [] _).alloc _) (by simp)
        have B8 : Hid ((w7.alloc (.cells (imageA n Arr.zero) 68)).heap[w7.heap.size]? = some (.cells (imageA n Arr.zero) 68)) := heap_alloc_new _ _
        have T8 : Hid (Tch [] W (w7.alloc (.cells (imageA n Arr.zero) 68))) := T7.out.alloc _
        go_wp2_with (first | ((with_reducible refine wc_build_img FI.out ?_ ?_); exact rfl; go_frame) | ((with_reducible refine wc_slice_img imgInfo imgsS (n := (n : Int)) (p := Arr.zero) ?_ ?_); exact rfl; go_frame) | (at_builtin; refine wc_append_img (x := .tmp 36) (y := .tmp 40) imgInfo imgsS (q := ((n : Int), Arr.zero)) I8.out (by simp; omega) (by simp; omega) rfl rfl rfl rfl B8.out ?_; intro v9 w9 ho9 ht9; go_frame; have HO9 := Lib.hid ho9; have O9 := Lib.hid (O8.out.kept ht9 (own_apart' O8.out I8.out (by decide))); have T9 := Lib.hid (tch_own T8.out ht9 (fun k hk => (I8.out.lt k hk).1)); clear ho9 ht9))
        go_roundg (m - (j + 1))
        case measure => omega
        case rel =>
          refine ⟨j + 1, ⟨by omega, by go_num, rfl⟩, ?_⟩
          rw [HNX.out]
          refine ⟨by rw [List.map_append]; exact O9.out, by rw [List.map_append]; exact HO9.out, T9.out, ?_, ?_⟩
          · intro x hx
            rcases List.mem_append.1 hx with hx | hx
            · exact R.out.lt x hx
            · rw [List.mem_singleton.1 hx]; omega
          · refine List.nodup_append.2 ⟨R.out.nd, by simp, ?_⟩
            rintro a ha b hb rfl
            rw [List.mem_singleton] at hb
            exact HMEM.out (hb ▸ ha)
    · have hjm' : j = m := by omega
      subst hjm'
      have hnm : LogS.names f = (List.range j).map (numAt f.page) := by unfold LogS.names; rw [HM.out]
      have hb : S.listed f = decide (f.page = numsPage ((List.range j).map (numAt f.page))) := by
        unfold LogS.listed
        rw [hnm, decide_eq_true R.out.lt, decide_eq_true R.out.nd]; rfl
      have HB := Lib.hid hb
      have HNM := Lib.hid hnm
      subst hv6
      have CN : Hid (∀ w', Tch [] wr w' → Calls Tryz.prog 71 #[.slice na j ncap] w' fun e w'' => e = .returned (.agg (secA (numsPage ((List.range j).map (numAt f.page))))) ∧ Tch [] wr w'') := fun w' ht => by
        have := numbers_any (cap := ncap) (NA.out.later ht) (by simp; omega) (fun n hn => by obtain ⟨i, _, rfl⟩ := List.mem_map.1 hn; exact numAt_lt _ _)
        rw [List.length_map, List.length_range] at this
        exact this.mono (by rintro e w'' ⟨h1, h2⟩; exact ⟨h1, ht.trans h2⟩)
      have KF : Hid (∀ w', Tch [] wr w' → w'.heap[w.heap.size]? = some (.cells (frameA f) 105)) := fun w' ht => ht.heap bR.out (by simp)
      clear hb hnm
      go_upto_region 12 with fail
      refine wp_region_walk (C := fun w' => Tch [] wr w') 8 (by kernel_rfl) (by kernel_rfl) ((Tch.refl _ _).drew) ?_
      simp only [List.take_succ_cons, List.take_zero, List.drop_succ_cons, List.drop_zero]
      (repeat (first
          | ((with_reducible refine wq_load_framepage pageT.agg KF.out ?_ ?_ ?_); exact rfl; exact rfl; go_frame)
          | ((with_reducible refine wq_fn cf_numbers2 ?_ ?_ CN.out ?_); exact rfl; exact rfl; go_frame)
          | ((with_reducible refine wq_eql_arr pageT (s := f.page) (t := numsPage ((List.range j).map (numAt f.page))) ?_ ?_ ?_ ?_); exact rfl; exact rfl; exact rfl; go_frame)
          | go_big_quiet_skip | (go_big_quiet_want; go_big_quiet_op; first | go_big_quiet_on | (refine ⟨_, fun _ _ => rfl, ?_⟩; go_big_quiet_on))))
      refine wpQuiet_nil ?_
      intro w2 ht2
      have T2 := Lib.hid ht2
      clear ht2
      go_wp2_with fail
      go_ret2
      refine ⟨TW.out.trans (R.out.tch.trans T2.out), _, by rw [HB.out]; rfl, fun _ => ?_⟩
      rw [HNM.out]
      exact (R.out.imgs.kept T2.out (by simp)).base TW.out.size
end Go.Proofs.YthbaipljlbddcaaGreat
/-
  The next record of the log: package wal's record.
-/
namespace Go.Cib
open Go Go.RowKit
theorem wc_load_frame {P : Program} {T e : TypeId} {ops : Array Oper} {rest : List Oper} {a : Act} {w : World} {Q : Exit → Act → World → Prop} {dst : Option Tmp} {ty : TypeId} {pos : String} {af : Array Edge} {x : Operand} (hT : FrameT P T) {b : Nat} {f : FrameV} {fr : Nat × Nat} (hb : w.heap[b]? = some (.cells (frameA f) e fr)) (hx : a.eval x = .pointer (some ⟨b, 0, none⟩))
    (h : wpList P ops Q rest (a.put dst (.agg (frameA f))) w) : wpList P ops Q (⟨dst, .load T x, ty, pos, af, none⟩ :: rest) a w :=
  wc_value rfl (exec_load_frame hT rfl hb hx) h
theorem wcg_load_framepage {P : Program} {T : TypeId} {ops : Array Oper} {rest : List Oper} {a : Act} {w : World} {Q : Exit → Act → World → Prop} {dst : Option Tmp} {ty : TypeId} {pos : String} {af : Array Edge} {x : Operand} {gd : Option (Nat × Bool)} (hT : AggT P T 480) {f : FrameV} {b : Nat} {e' : TypeId} {fr : Nat × Nat} (hb : w.heap[b]? = some (.cells (frameA f) e' fr))
    (hw : Region.wanted ⟨dst, .load T x, ty, pos, af, gd⟩ (yielded ops a.tmps) = true) (hx : a.eval x = .pointer (some ⟨b, 4, none⟩)) (h : wpList P ops Q rest (a.put dst (.agg (secA f.page))) w) : wpList P ops Q (⟨dst, .load T x, ty, pos, af, gd⟩ :: rest) a w :=
  wcg_value hw (exec_load_framepage hT rfl hb hx) h
theorem wcg_build_arr {P : Program} {T : TypeId} {n : Nat} {ops : Array Oper} {rest : List Oper} {a : Act} {w : World} {Q : Exit → Act → World → Prop} {dst : Option Tmp} {ty : TypeId} {pos : String} {af : Array Edge} {gd : Option (Nat × Bool)} (hT : BytesT P T n)
    (hw : Region.wanted ⟨dst, .build T #[], ty, pos, af, gd⟩ (yielded ops a.tmps) = true) (h : wpList P ops Q rest (a.put dst (.agg (secA (Arr.zero : Arr n)))) w) : wpList P ops Q (⟨dst, .build T #[], ty, pos, af, gd⟩ :: rest) a w := by
  obtain ⟨i, h1, _, _, h2⟩ := hT.info
  obtain ⟨E, j, g1, _, g2, _⟩ := hT.und
  exact wcg_value hw (exec_build_zero h1 h2 g1 g2 rfl) h
namespace LogS
/-- The images gathered so far. -/
def gath (S : LogS) (f : FrameV) (n k : Nat) : List (Int × Page) := (List.range n).map fun i => ((numAt f.page i : Int), if i < k then (S.atF (S.used + 1 + i)).page else Arr.zero)
theorem gath_zero (S : LogS) (f : FrameV) : S.gath f f.idx 0 = (names f).map fun (n : Nat) => ((n : Int), (Arr.zero : Page)) := by
  unfold gath names
  rw [List.map_map]
  exact List.map_congr_left fun i _ => by simp
theorem gath_set (S : LogS) (f : FrameV) (n k : Nat) (hk : k < n) : (S.gath f n k).set k ((numAt f.page k : Int), (S.atF (S.used + 1 + k)).page) = S.gath f n (k + 1) := by
  unfold gath
  apply List.ext_getElem?
  intro i
  rw [List.getElem?_set]
  simp only [List.getElem?_map, List.length_map, List.length_range]
  by_cases hi : i < n
  · rw [List.getElem?_range hi]
    by_cases h : k = i
    · subst h; simp [hi]
    · rw [if_neg h]
      by_cases h2 : i < k
      · simp [h2, show i < k + 1 by omega]
      · simp [h2, show ¬ i < k + 1 by omega]
  · rw [List.getElem?_eq_none (by simpa using hi)]
    rw [if_neg (by omega)]
    rfl
theorem gath_all (S : LogS) (f : FrameV) : S.gath f f.idx f.idx = (S.images f).map fun q => ((q.1 : Int), q.2) := by
  unfold gath images
  rw [List.map_map]
  refine List.map_congr_left fun i hi => ?_
  rw [if_pos (List.mem_range.1 hi)]
  rfl
end LogS
end Go.Cib
namespace Go.Proofs.YthbaipljlbddcaaGreat
open Go.RowKit Go.Cib
/-- What record needs of a log. -/
structure RecOk (S : LogS) : Prop where
  alive : S.disk.dead = false
  size : 2 + S.log ≤ S.disk.lasts.length
  log : S.log ≤ 4000
  used : S.used ≤ S.log
  records : S.records ≤ 4000
  pages : S.pages ≤ 16384

set_option maxRecDepth 20000 in
set_option maxHeartbeats 4000000 in
theorem record_any {w : World} {g d L M V : Nat} {S : LogS} (h : LogAt w g d L M V S) (ok : RecOk S) :
    Calls Tryz.prog 48 #[.pointer (some ⟨g, 0, none⟩)] w fun e w' =>
      (S.record = none ∧ e = .returned (.tuple #[.bool false, .int .i64 0]) ∧ Tch [] w w') ∨ ∃ ws, S.record = some ws ∧ e = .returned (.tuple #[.bool true, .int .i64 0]) ∧ LogAt w' g d L M V (S.took ws) ∧ Tch [g, V] w w' := by
  have H := Lib.hid h
  have OKK := Lib.hid ok
  have AT : Hid (∀ w1, Tch [] w w1 → ∀ place kind, place ≤ 100000 → Calls Tryz.prog 73 #[.pointer (some ⟨g, 0, none⟩), .int .i64 (place : Nat), .int .u8 (kind : UInt8).toNat] w1 fun e w' =>
      e = .returned (.tuple #[.agg (frameA (S.atF place)), .bool (S.atOk place kind), .int .i64 0]) ∧ Tch [] w w') := fun w1 t1 place kind hp =>
    (at_any (h.touch t1 (by simp) (by simp) (by simp) (by simp) (by simp)) ok.alive ok.size place hp kind).mono (by rintro e w' ⟨h1, h2⟩; exact ⟨h1, t1.trans h2⟩)
  have c4 := h.cell 4 rfl
  have hlog := ok.log
  have hus := ok.used
  obtain ⟨f, hf⟩ : ∃ f, S.atF S.used = f := ⟨_, rfl⟩
  obtain ⟨ob, hob⟩ : ∃ ob, S.atOk S.used 2 = ob := ⟨_, rfl⟩
  have A0 : Hid (Calls Tryz.prog 73 #[.pointer (some ⟨g, 0, none⟩), .int .i64 S.used, .int .u8 2] w fun e w' => e = .returned (.tuple #[.agg (frameA f), .bool ob, .int .i64 0]) ∧ Tch [] w w') := by
    rw [← hf, ← hob]; exact AT.out w (Tch.refl _ _) S.used 2 (by omega)
  have HF := Lib.hid hf
  have HOB := Lib.hid hob
  have RN : Hid (∀ _ : ¬ (S.atOk S.used 2 = true ∧ 1 ≤ (S.atF S.used).idx ∧ (S.atF S.used).idx ≤ 120 ∧ S.used + (S.atF S.used).idx + 2 ≤ S.log ∧ S.listed (S.atF S.used) = true ∧
      (∀ k < (S.atF S.used).idx, S.atOk (S.used + 1 + k) 3 = true ∧ (S.atF (S.used + 1 + k)).idx = k) ∧
      S.atOk (S.used + 1 + (S.atF S.used).idx) 4 = true ∧ (S.atF (S.used + 1 + (S.atF S.used).idx)).idx = (S.atF S.used).idx ∧ (S.atF (S.used + 1 + (S.atF S.used).idx)).page = Arr.zero), S.record = none) := fun hn => by unfold LogS.record; rw [if_neg hn]
  have hokf : f.Ok := by
    rw [← hf]; unfold LogS.atF
    split
    · exact parse_ok _
    · exact ⟨by decide, by decide, by decide⟩
  have hidx := hokf.idx
  rw [hf, hob] at RN
  obtain ⟨m, hm⟩ : ∃ m, f.idx = m := ⟨_, rfl⟩
  have HM := Lib.hid hm
  clear h ok hf hob hokf
  go_enter Tryz.func48, Tryz.ntmps48
  go_upto_region 2 with (first | (go_at_call 73; refine A0.out.mono ?_; rintro e w1 ⟨rfl, q1⟩; have T1 := Lib.hid q1; clear q1) | ((with_reducible refine wc_alloc_frame frameTT ?_); go_frame) | ((with_reducible apply wc_store_frame frameTT (heap_alloc_new w1 (.cells (frameA FrameV.zero) 105)) (g := f)); exact rfl; exact rfl; go_frame; rw [setRow_alloc_new]))
  obtain ⟨F, hF⟩ : ∃ F, w1.heap.size = F := ⟨_, rfl⟩
  obtain ⟨W, hW⟩ : ∃ W, w1.alloc (.cells (frameA f) 105) = W := ⟨_, rfl⟩
  have bF : W.heap[F]? = some (.cells (frameA f) 105) := by rw [← hW, ← hF]; exact heap_alloc_new _ _
  have tW : Tch [] w W := by rw [← hW]; exact T1.out.alloc _
  rw [hF, hW]
  obtain ⟨k0, k1, k2, k3⟩ := frame_cell bF
  rw [hm] at k3 hidx
  have hw := H.out.touch tW (by simp) (by simp) (by simp) (by simp) (by simp)
  have c1W := hw.cell 1 rfl
  have c4W := hw.cell 4 rfl
  have BF := Lib.hid bF
  have TW := Lib.hid tW
  clear hF hW bF tW hw A0 T1 k0 k1 k2 c4
  have hsub : wrap64 ((S.log : Int) - S.used) = S.log - S.used := by unfold wrap64; omega
  by_cases h1 : ob = true
  rotate_left
  · have hb : ob = false := by simpa using h1
    have E := Lib.hid (RN.out (fun hh => h1 hh.1))
    subst hb
    clear h1
    (refine wp_region_walk (C := fun w' => ∃ n, w' = World.drewN W n) 32 (by kernel_rfl) (by kernel_rfl) ⟨1, rfl⟩ ?_; simp only [List.take_succ_cons, List.take_zero, List.drop_succ_cons, List.drop_zero]; (repeat (first | fail | go_big_quiet_step (fail))); refine wpQuiet_nil ?_; intro _ hw'; obtain ⟨nq, hw''⟩ := hw'; subst hw'')
    go_wp2_with fail
    go_ret2
    exact .inl ⟨E.out, rfl, TW.out.trans (tch_drewN W nq)⟩
  subst h1
  by_cases h2 : 1 ≤ m
  rotate_left
  · have E := Lib.hid (RN.out (fun hh => h2 (by have := hh.2.1; rw [HM.out] at this; exact this)))
    have h2' : (m : Int) < 1 := by omega
    (refine wp_region_walk (C := fun w' => ∃ n, w' = World.drewN W n) 32 (by kernel_rfl) (by kernel_rfl) ⟨1, rfl⟩ ?_; simp only [List.take_succ_cons, List.take_zero, List.drop_succ_cons, List.drop_zero]; (repeat (first | fail | go_big_quiet_step (fail))); refine wpQuiet_nil ?_; intro _ hw'; obtain ⟨nq, hw''⟩ := hw'; subst hw'')
    go_wp2_with fail
    go_ret2
    exact .inl ⟨E.out, rfl, TW.out.trans (tch_drewN W nq)⟩
  have h2' : ¬ ((m : Int) < 1) := by omega
  by_cases h3 : m ≤ 120
  rotate_left
  · have E := Lib.hid (RN.out (fun hh => h3 (by have := hh.2.2.1; rw [HM.out] at this; exact this)))
    have h3' : (120 : Int) < m := by omega
    (refine wp_region_walk (C := fun w' => ∃ n, w' = World.drewN W n) 32 (by kernel_rfl) (by kernel_rfl) ⟨1, rfl⟩ ?_; simp only [List.take_succ_cons, List.take_zero, List.drop_succ_cons, List.drop_zero]; (repeat (first | fail | go_big_quiet_step (fail))); refine wpQuiet_nil ?_; intro _ hw'; obtain ⟨nq, hw''⟩ := hw'; subst hw'')
    go_wp2_with fail
    go_ret2
    exact .inl ⟨E.out, rfl, TW.out.trans (tch_drewN W nq)⟩
  have h3' : ¬ ((120 : Int) < m) := by omega
  by_cases h4 : S.used + m + 2 ≤ S.log
  rotate_left
  · have E := Lib.hid (RN.out (fun hh => h4 (by have := hh.2.2.2.1; rw [HM.out] at this; exact this)))
    have h4' : (S.log : Int) - S.used < m + 2 := by omega
    (refine wp_region_walk (C := fun w' => ∃ n, w' = World.drewN W n) 32 (by kernel_rfl) (by kernel_rfl) ⟨1, rfl⟩ ?_; simp only [List.take_succ_cons, List.take_zero, List.drop_succ_cons, List.drop_zero]; (repeat (first | fail | go_big_quiet_step (fail))); refine wpQuiet_nil ?_; intro _ hw'; obtain ⟨nq, hw''⟩ := hw'; subst hw'')
    go_wp2_with fail
    go_ret2
    exact .inl ⟨E.out, rfl, TW.out.trans (tch_drewN W nq)⟩
  have h4' : ¬ (S.log : Int) - S.used < m + 2 := by omega
  (refine wp_region_walk (C := fun w' => ∃ n, w' = World.drewN W n) 32 (by kernel_rfl) (by kernel_rfl) ⟨1, rfl⟩ ?_; simp only [List.take_succ_cons, List.take_zero, List.drop_succ_cons, List.drop_zero]; (repeat (first | fail | go_big_quiet_step (fail))); refine wpQuiet_nil ?_; intro _ hw'; obtain ⟨nq, hw''⟩ := hw'; subst hw'')
  have T2 := Lib.hid (TW.out.trans (tch_drewN W nq))
  have BF2 := Lib.hid ((tch_drewN W nq).heap BF.out (by simp))
  have k32 := cell_old (tch_drewN W nq) k3
  clear k3 c1W c4W BF TW
  generalize W.drewN nq = W2 at *
  have H2 := Lib.hid (H.out.touch T2.out (by simp) (by simp) (by simp) (by simp) (by simp))
  have CL := Lib.hid (listed_any H2.out f (by omega))
  obtain ⟨lb, hlb⟩ : ∃ lb, S.listed f = lb := ⟨_, rfl⟩
  rw [hlb] at CL RN
  cases lb with
  | false =>
    have E := Lib.hid (RN.out (fun hh => by have := hh.2.2.2.2.1; cases this))
    clear hlb
    go_wp2_with (first | ((with_reducible apply wc_load_frame frameTT BF2.out); exact rfl; go_frame) | (go_at_call 74; refine CL.out.mono ?_; rintro e w3 ⟨q1, v, rfl, _⟩; have T3 := Lib.hid (T2.out.trans q1); clear q1))
    go_ret2
    exact .inl ⟨E.out, rfl, T3.out⟩
  | true =>
    have HLB := Lib.hid hlb
    clear hlb
    go_upto_region 8 with (first | ((with_reducible apply wc_load_frame frameTT BF2.out); exact rfl; go_frame) | (go_at_call 74; refine CL.out.mono ?_; rintro e w3 ⟨q1, v, rfl, q2⟩; have T3 := Lib.hid (T2.out.trans q1); have BF3 := Lib.hid (q1.heap BF2.out (by simp)); have q3 := q2 rfl; rw [← LogS.gath_zero S f, HM.out] at q3; have I3 := Lib.hid q3; clear q1 q2 q3))
    have hFw : w.heap.size ≤ W2.heap.size := T2.out.size
    obtain ⟨ia, icap, hv, _, hbase⟩ := I3.out.at_
    have hgl : (S.gath f m 0).length = m := by simp [LogS.gath]
    rw [hgl] at hv
    subst hv
    have HBASE := Lib.hid hbase
    clear hbase hgl
    obtain ⟨ib, rfl⟩ : ∃ ib, ia = some ⟨ib, 0, none⟩ := by
      obtain ⟨a', cap', e', hI, _⟩ := I3.out.at_
      rw [(Value.slice.inj e').1]
      obtain ⟨b, c, e, fr, hb, _⟩ := hI 0 _ (List.getElem?_eq_getElem (by rw [LogS.gath, List.length_map, List.length_range]; omega))
      exact ⟨b, hb⟩
    have hibW : W2.heap.size ≤ ib := HBASE.out ib rfl
    have hFW2 : F < W2.heap.size := lt_of_heap BF2.out
    have hibw : w.heap.size ≤ ib := by omega
    go_wp2_with fail
    go_loopg [70] m (fun q i wr => ∃ k, OnAt m i q k ∧ OwnImgs wr W2.heap.size 68 (.slice (some ⟨ib, 0, none⟩) m icap) (S.gath f m k) ∧ Tch [ib] w3 wr ∧ ∀ i < k, S.atOk (S.used + 1 + i) 3 = true ∧ (S.atF (S.used + 1 + i)).idx = i)
    case atStart => exact ⟨0, ⟨Nat.zero_le _, rfl, rfl⟩, I3.out, Tch.refl _ _, fun i hi => by omega⟩
    case round =>
      obtain ⟨k, ⟨hk, rfl, rfl⟩, him, ht, hall⟩ := hrel
      have tw : Tch [] w wr := tch_own T3.out ht (by simpa using hibw)
      have hl := H.out.touch tw (by simp) (by simp) (by simp) (by simp) (by simp)
      have c4 := hl.cell 4 rfl
      have bF := ht.heap BF3.out (by simp; omega)
      obtain ⟨_, _, _, kF⟩ := frame_cell bF
      rw [HM.out] at kF
      have IM := Lib.hid him
      have TR := Lib.hid ht
      have ALL := Lib.hid hall
      have TWR := Lib.hid tw
      have BFR := Lib.hid bF
      clear him ht hall hl bF
      by_cases hkm : k < m
      · obtain ⟨fk, hfk⟩ : ∃ fk, S.atF (S.used + 1 + k) = fk := ⟨_, rfl⟩
        obtain ⟨bk, hbk⟩ : ∃ bk, S.atOk (S.used + 1 + k) 3 = bk := ⟨_, rfl⟩
        have AK : Hid (Calls Tryz.prog 73 #[.pointer (some ⟨g, 0, none⟩), .int .i64 ((S.used : Int) + 1 + k), .int .u8 3] wr fun e w' => e = .returned (.tuple #[.agg (frameA fk), .bool bk, .int .i64 0]) ∧ Tch [] wr w') := by
          have := at_any (TWR.out |> fun t => H.out.touch t (by simp) (by simp) (by simp) (by simp) (by simp)) OKK.out.alive OKK.out.size (S.used + 1 + k) (by omega) 3
          rw [hfk, hbk, show ((S.used + 1 + k : Nat) : Int) = (S.used : Int) + 1 + k by omega] at this
          exact this
        have HFK := Lib.hid hfk
        have HBK := Lib.hid hbk
        have hfi : fk.idx < 4294967296 := by
          rw [← hfk]; unfold LogS.atF
          split
          · exact (parse_ok _).idx
          · decide
        have W3k := convU32 k (by omega)
        clear hfk hbk tw
        go_upto_region 12 with (first | (go_at_call 73; refine AK.out.mono ?_; rintro e w5 ⟨rfl, q1⟩; have T5 := Lib.hid q1; clear q1) | ((with_reducible refine wc_alloc_frame frameTT ?_); go_frame) | ((with_reducible apply wc_store_frame frameTT (heap_alloc_new w5 (.cells (frameA FrameV.zero) 105)) (g := fk)); exact rfl; exact rfl; go_frame; rw [setRow_alloc_new]))
        obtain ⟨G, hG⟩ : ∃ G, w5.heap.size = G := ⟨_, rfl⟩
        obtain ⟨w6, hw6⟩ : ∃ w6, w5.alloc (.cells (frameA fk) 105) = w6 := ⟨_, rfl⟩
        have bG : w6.heap[G]? = some (.cells (frameA fk) 105) := by rw [← hw6, ← hG]; exact heap_alloc_new _ _
        have t6 : Tch [] wr w6 := by rw [← hw6]; exact T5.out.alloc _
        obtain ⟨_, _, _, kG⟩ := frame_cell bG
        rw [hG, hw6]
        have BG := Lib.hid bG
        have T6 := Lib.hid t6
        have I6 := Lib.hid (IM.out.kept t6 (by simp))
        clear hG hw6 bG t6 c4 kF T5
        by_cases p1 : bk = true
        rotate_left
        · have pb : bk = false := by simpa using p1
          have E := Lib.hid (RN.out (fun hh => p1 (by have := (hh.2.2.2.2.2.1 k (by rw [HM.out]; exact hkm)).1; rw [HBK.out] at this; exact this)))
          subst pb
          clear p1
          go_wp2_with fail
          go_ret2
          exact .inl ⟨E.out, rfl, TWR.out.trans T6.out⟩
        subst p1
        by_cases p2 : fk.idx = k
        rotate_left
        · have E := Lib.hid (RN.out (fun hh => p2 (by have := (hh.2.2.2.2.2.1 k (by rw [HM.out]; exact hkm)).2; rw [HFK.out] at this; exact this)))
          have p2' : ((fk.idx : Int) != k) = true := by simp; omega
          clear p2
          go_wp2_with fail
          go_ret2
          exact .inl ⟨E.out, rfl, TWR.out.trans T6.out⟩
        · have p2' : ((fk.idx : Int) != k) = false := by simp; omega
          have P2 := Lib.hid p2
          have hgk : (S.gath f m k)[k]? = some ((numAt f.page k : Int), if k < k then (S.atF (S.used + 1 + k)).page else Arr.zero) := by unfold LogS.gath; rw [List.getElem?_map, List.getElem?_range hkm]; rfl
          have HGK := Lib.hid hgk
          clear p2 hgk
          go_wp2_with (first | ((with_reducible apply wc_load_framepage pageT.agg BG.out); exact rfl; go_frame) | ((with_reducible refine wc_store_imgpage pageT.agg (p := fk.page) I6.out HGK.out rfl ?_ ?_ ?_); exact rfl; exact rfl; intro w8 ho8 ht8; go_frame; have I8 := Lib.hid ho8; have T8 := Lib.hid ht8; clear ho8 ht8))
          go_roundg (m - (k + 1))
          case measure => omega
          case rel =>
            refine ⟨k + 1, ⟨by omega, by go_num, rfl⟩, ?_, TR.out.trans ((T6.out.mono (by simp)).trans T8.out), fun i hi => ?_⟩
            · have := I8.out
              rw [← HFK.out, LogS.gath_set S f m k hkm] at this
              exact this
            · rcases Nat.lt_or_ge i k with h | h
              · exact ALL.out i h
              · have : i = k := by omega
                subst this
                exact ⟨HBK.out, by rw [HFK.out]; exact P2.out⟩
      · have hkm' : k = m := by omega
        subst hkm'
        obtain ⟨fe, hfe⟩ : ∃ fe, S.atF (S.used + 1 + k) = fe := ⟨_, rfl⟩
        obtain ⟨be, hbe⟩ : ∃ be, S.atOk (S.used + 1 + k) 4 = be := ⟨_, rfl⟩
        have AK : Hid (Calls Tryz.prog 73 #[.pointer (some ⟨g, 0, none⟩), .int .i64 ((S.used : Int) + 1 + k), .int .u8 4] wr fun e w' => e = .returned (.tuple #[.agg (frameA fe), .bool be, .int .i64 0]) ∧ Tch [] wr w') := by
          have := at_any (TWR.out |> fun t => H.out.touch t (by simp) (by simp) (by simp) (by simp) (by simp)) OKK.out.alive OKK.out.size (S.used + 1 + k) (by omega) 4
          rw [hfe, hbe, show ((S.used + 1 + k : Nat) : Int) = (S.used : Int) + 1 + k by omega] at this
          exact this
        have hfi : fe.idx < 4294967296 := by
          rw [← hfe]; unfold LogS.atF
          split
          · exact (parse_ok _).idx
          · decide
        have e0 : S.atF S.used = f := HF.out
        have hrec : S.record = if be = true ∧ fe.idx = k ∧ fe.page = Arr.zero then some (S.images f) else none := by
          by_cases hc : be = true ∧ fe.idx = k ∧ fe.page = Arr.zero
          · rw [if_pos hc]
            unfold LogS.record
            rw [e0, HM.out, hfe, hbe, if_pos ⟨HOB.out, h2, h3, h4, HLB.out, ALL.out, hc.1, hc.2.1, hc.2.2⟩]
          · rw [if_neg hc]
            refine RN.out (fun hh => hc ?_)
            have := hh.2.2.2.2.2.2
            rw [HM.out, hfe, hbe] at this
            exact this
        have HREC := Lib.hid hrec
        clear hfe hbe tw hrec e0
        go_upto_region 17 with (first | (go_at_call 73; refine AK.out.mono ?_; rintro e w5 ⟨rfl, q1⟩; have T5 := Lib.hid q1; clear q1) | ((with_reducible refine wc_alloc_frame frameTT ?_); go_frame) | ((with_reducible apply wc_store_frame frameTT (heap_alloc_new w5 (.cells (frameA FrameV.zero) 105)) (g := fe)); exact rfl; exact rfl; go_frame; rw [setRow_alloc_new]))
        obtain ⟨G, hG⟩ : ∃ G, w5.heap.size = G := ⟨_, rfl⟩
        obtain ⟨w6, hw6⟩ : ∃ w6, w5.alloc (.cells (frameA fe) 105) = w6 := ⟨_, rfl⟩
        have bG : w6.heap[G]? = some (.cells (frameA fe) 105) := by rw [← hw6, ← hG]; exact heap_alloc_new _ _
        have t6 : Tch [] wr w6 := by rw [← hw6]; exact T5.out.alloc _
        obtain ⟨_, _, _, kG⟩ := frame_cell bG
        have kF6 := cell_old t6 kF
        rw [hG, hw6]
        have BG := Lib.hid bG
        have T6 := Lib.hid t6
        have I6 := Lib.hid (IM.out.kept t6 (by simp))
        clear hG hw6 bG t6 c4 kF T5
        by_cases p1 : be = true
        rotate_left
        · have pb : be = false := by simpa using p1
          have E : Hid (S.record = none) := by show _ = _; rw [HREC.out, if_neg (fun hh => p1 hh.1)]
          subst pb
          clear p1
          go_wp2_with fail
          go_ret2
          exact .inl ⟨E.out, rfl, TWR.out.trans T6.out⟩
        subst p1
        by_cases p2 : fe.idx = k
        rotate_left
        · have E : Hid (S.record = none) := by show _ = _; rw [HREC.out, if_neg (fun hh => p2 hh.2.1)]
          have p2' : ((fe.idx : Int) != k) = true := by simp; omega
          clear p2
          go_wp2_with fail
          go_ret2
          exact .inl ⟨E.out, rfl, TWR.out.trans T6.out⟩
        have p2' : ((fe.idx : Int) != k) = false := by simp; omega
        have P2 := Lib.hid p2
        clear p2
        by_cases p3 : fe.page = Arr.zero
        rotate_left
        · have E : Hid (S.record = none) := by show _ = _; rw [HREC.out, if_neg (fun hh => p3 hh.2.2)]
          have p3' : decide (fe.page = Arr.zero) = false := by simp [p3]
          clear p3
          go_wp2_with (first | ((with_reducible refine wcg_load_framepage pageT.agg BG.out ?_ ?_ ?_); exact rfl; exact rfl; go_frame) | ((with_reducible refine wcg_build_arr pageT ?_ ?_); exact rfl; go_frame) | ((with_reducible refine wcg_neq_arr pageT (s := fe.page) (t := Arr.zero) ?_ ?_ ?_ ?_); exact rfl; exact rfl; exact rfl; rw [p3']; go_frame))
          go_ret2
          exact .inl ⟨E.out, rfl, TWR.out.trans T6.out⟩
        · have E : Hid (S.record = some (S.images f)) := by show _ = _; rw [HREC.out, if_pos ⟨rfl, P2.out, p3⟩]
          have p3' : decide (fe.page = Arr.zero) = true := by simp [p3]
          have hil : (S.images f).length = k := by unfold LogS.images; rw [List.length_map, List.length_range, HM.out]
          have hga : S.gath f k k = (S.images f).map fun q => ((q.1 : Int), q.2) := by
            have := LogS.gath_all S f
            rw [HM.out] at this
            exact this
          have tw6 := TWR.out.trans T6.out
          have h6 := H.out.touch tw6 (by simp) (by simp) (by simp) (by simp) (by simp)
          have im6 : ImgsAt w6 (some ⟨ib, 0, none⟩) ((S.images f).map fun q => ((q.1 : Int), q.2)) := by
            obtain ⟨a', cap', e', hI, _⟩ := I6.out.at_
            rw [← (Value.slice.inj e').1, hga] at hI
            exact hI
          have TK : Hid (Calls Tryz.prog 52 #[.pointer (some ⟨g, 0, none⟩), .slice (some ⟨ib, 0, none⟩) k icap] w6 fun e w' => e = .returned (.tuple #[]) ∧ LogAt w' g d L M V (S.took (S.images f)) ∧ Tch [g, V] w w') := by
            have := took_any (icap := icap) h6 im6 (by omega) (by omega) OKK.out.records
            rw [hil] at this
            exact this.mono (by rintro e w' ⟨q1, q2, q3⟩; exact ⟨q1, q2, (tw6.mono (by simp)).trans q3⟩)
          clear p3 hil hga tw6 h6 im6
          go_wp2_with (first | ((with_reducible refine wcg_load_framepage pageT.agg BG.out ?_ ?_ ?_); exact rfl; exact rfl; go_frame) | ((with_reducible refine wcg_build_arr pageT ?_ ?_); exact rfl; go_frame) | ((with_reducible refine wcg_neq_arr pageT (s := fe.page) (t := Arr.zero) ?_ ?_ ?_ ?_); exact rfl; exact rfl; exact rfl; rw [p3']; go_frame) | (go_at_call 52; refine TK.out.mono ?_; rintro e w9 ⟨rfl, q1, q2⟩; have Z1 := Lib.hid q1; have Z2 := Lib.hid q2; clear q1 q2))
          go_ret2
          exact .inr ⟨_, E.out, rfl, Z1.out, Z2.out⟩
end Go.Proofs.YthbaipljlbddcaaGreat
/-
  A head is taken, if it counts: package wal's chooses.
-/
namespace Go.Proofs.YthbaipljlbddcaaGreat
open Go.RowKit Go.Cib
def KCho (g d F : Nat) (lg pg len : Nat) (p : Page) : Nat → Value → World → Prop
  | 0, v, _ => v = .int .u32 lg
  | 1, v, _ => v = .bool false
  | 2, v, _ => v = .bool false
  | 3, v, _ => v = .int .u32 lg
  | 4, v, _ => v = .bool false
  | 5, v, _ => v = .bool false
  | 6, v, _ => v = .bool false
  | 7, v, _ => v = .int .u32 pg
  | 8, v, _ => v = .bool false
  | 9, v, _ => v = .bool false
  | 10, v, _ => v = .bool false
  | 11, v, _ => v = .int .u32 pg
  | 12, v, _ => v = .bool false
  | 13, v, _ => v = .bool false
  | 14, v, _ => v = .bool false
  | 15, v, _ => v = .int .u32 lg
  | 16, v, _ => v = .int .u32 (2 + lg)
  | 17, v, _ => v = .int .u32 pg
  | 18, v, _ => v = .int .u32 (2 + lg + pg)
  | 19, v, _ => v = .int .i64 (2 + lg + pg)
  | 20, v, _ => v = .pointer (some ⟨g, 0, none⟩)
  | 21, v, _ => v = .pointer (some ⟨g, 0, none⟩)
  | 22, v, _ => v = .pointer (some ⟨g, 0, none⟩)
  | 23, v, _ => v = .pointer (some ⟨d, 0, none⟩)
  | 24, v, _ => v = .int .i64 len
  | 25, v, _ => v = .bool false
  | 26, v, _ => v = .bool false
  | 27, v, _ => v = .bool false
  | 28, v, _ => v = .pointer (some ⟨F, 4, none⟩)
  | 29, v, _ => v = .agg (secA p)
  | 30, v, _ => v = .int .u32 lg
  | 31, v, _ => v = .int .u32 pg
  | 32, v, w => ∃ k, v = .slice (some ⟨k, 0, none⟩) 2 2 ∧ NumsAt w (some ⟨k, 0, none⟩) [lg, pg]
  | _, v, _ => v = .agg (secA (numsPage [lg, pg]))
theorem KCho.later {g d F lg pg len : Nat} {p : Page} {j : Nat} {v : Value} {w w' : World} (h : KCho g d F lg pg len p j v w) (ht : Tch [] w w') : KCho g d F lg pg len p j v w' := by
  unfold KCho at h ⊢
  split at h <;> first | exact h | (obtain ⟨k, e, hk⟩ := h; exact ⟨k, e, hk.later ht⟩)
set_option maxRecDepth 20000 in
theorem cf_number (args : Array Value) (w : World) : (callFunc 72 args).run Tryz.prog w = .ok (.enter 72 args) w := rfl

set_option maxRecDepth 20000 in
set_option maxHeartbeats 4000000 in
theorem chooses_any {w : World} {g d L M V : Nat} {S : LogS} (h : LogAt w g d L M V S) (i : Nat) (hi : i < 2) (s : Sec) :
    Calls Tryz.prog 47 #[.pointer (some ⟨g, 0, none⟩), .int .i64 i, .agg (secA s)] w fun e w' => e = .returned (.tuple #[]) ∧ LogAt w' g d L M V (S.chooses i s) ∧ Tch [g] w w' := by
  obtain ⟨w1, hw1⟩ : ∃ w1, w.alloc (.cells (secA s) 26) = w1 := ⟨_, rfl⟩
  have t1 : Tch [] w w1 := by rw [← hw1]; exact (Tch.refl _ _).alloc _
  have b1 : w1.heap[w.heap.size]? = some (.cells (secA s) 26) := by rw [← hw1]; exact heap_alloc_new _ _
  obtain ⟨f, hf⟩ : ∃ f, parse s = f := ⟨_, rfl⟩
  have hfo : f.Ok := hf ▸ parse_ok s
  obtain ⟨lg, hlg⟩ : ∃ lg, numAt f.page 0 = lg := ⟨_, rfl⟩
  obtain ⟨pg, hpg⟩ : ∃ pg, numAt f.page 1 = pg := ⟨_, rfl⟩
  have hlg2 : lg < 4294967296 := hlg ▸ numAt_lt _ _
  have hpg2 : pg < 4294967296 := hpg ▸ numAt_lt _ _
  obtain ⟨len, hlen⟩ : ∃ len, S.disk.lasts.length = len := ⟨_, rfl⟩
  have hlen2 : len ≤ 16384 := by rw [← hlen]; exact h.hD.ok.size
  have NO : Hid (¬ (f.sector = s ∧ f.kind = 1 ∧ f.num = 0 ∧ f.idx = 0 ∧ S.gen < f.gen ∧ f.gen % 2 = i ∧ 3 ≤ lg ∧ lg ≤ 4000 ∧ 1 ≤ pg ∧ pg ≤ 16384 ∧ 2 + lg + pg = len ∧ f.page = numsPage [lg, pg]) → S.chooses i s = S) := fun hn => by
    unfold LogS.chooses
    rw [if_neg]
    rintro ⟨h1, h2⟩
    unfold LogS.counts at h2
    rw [hf] at h1 h2
    rw [hlg, hpg, hlen] at h2
    exact hn ⟨h1, h2⟩
  have YES : Hid ((f.sector = s ∧ f.kind = 1 ∧ f.num = 0 ∧ f.idx = 0 ∧ S.gen < f.gen ∧ f.gen % 2 = i ∧ 3 ≤ lg ∧ lg ≤ 4000 ∧ 1 ≤ pg ∧ pg ≤ 16384 ∧ 2 + lg + pg = len ∧ f.page = numsPage [lg, pg]) → S.chooses i s = { S with gen := f.gen, log := lg, pages := pg }) := fun hn => by
    have hc : (parse s).sector = s ∧ S.counts i (parse s) := by
      unfold LogS.counts
      rw [hf, hlg, hpg, hlen]
      exact hn
    unfold LogS.chooses
    rw [if_pos hc, hf, hlg, hpg]
  have HW1 := Lib.hid hw1
  have T1 := Lib.hid t1
  have B1 := Lib.hid b1
  have H := Lib.hid h
  have HF := Lib.hid hf
  have HLG := Lib.hid hlg
  have HPG := Lib.hid hpg
  have LEN := Lib.hid hlen
  have FO := Lib.hid hfo
  obtain ⟨ob, hob⟩ : ∃ ob, decide (f.sector = s) = ob := ⟨_, rfl⟩
  have HOB := Lib.hid hob
  clear hw1 t1 b1 h hf hlg hpg hlen hfo hob
  go_enter Tryz.func47, Tryz.ntmps47
  go_upto_region 1 with ((with_reducible refine wc_box_agg ?_ ?_); exact rfl; go_frame)
  rw [HW1.out]
  go_upto_region 2 with (first | ((with_reducible apply wc_load_var secT B1.out); exact rfl; go_frame) | (go_at_call 53; refine (wread_any s _).mono ?_; rintro e w2 ⟨rfl, q1⟩; rw [HF.out, HOB.out]; have T2 := Lib.hid (T1.out.trans q1); clear q1) | ((with_reducible refine wc_alloc_frame frameTT ?_); go_frame) | ((with_reducible apply wc_store_frame frameTT (heap_alloc_new w2 (.cells (frameA FrameV.zero) 105)) (g := f)); exact rfl; exact rfl; go_frame; rw [setRow_alloc_new]))
  obtain ⟨F, hF⟩ : ∃ F, w2.heap.size = F := ⟨_, rfl⟩
  obtain ⟨w3, hw3⟩ : ∃ w3, w2.alloc (.cells (frameA f) 105) = w3 := ⟨_, rfl⟩
  have b3 : w3.heap[F]? = some (.cells (frameA f) 105) := by rw [← hw3, ← hF]; exact heap_alloc_new _ _
  have t3 : Tch [] w w3 := by rw [← hw3]; exact T2.out.alloc _
  have hFw : w.heap.size ≤ F := by rw [← hF]; exact T2.out.size
  rw [hF, hw3]
  have T3 := Lib.hid t3
  have B3 := Lib.hid b3
  clear hF hw3 b3 t3 T2
  have KF : Hid (∀ w', Tch [] w3 w' → w'.heap[F]? = some (.cells (frameA f) 105)) := fun w' ht => ht.heap B3.out (by simp)
  have N0 : Hid (∀ w', Tch [] w3 w' → Calls Tryz.prog 72 #[.agg (secA f.page), .int .i64 0] w' fun e w'' => e = .returned (.int .u32 lg) ∧ Tch [] w3 w'') := fun w' ht => by
    rw [← HLG.out]; exact (pnumber_any f.page 0 (by omega) w').mono (by rintro e w'' ⟨h1, h2⟩; exact ⟨h1, ht.trans h2⟩)
  have N1 : Hid (∀ w', Tch [] w3 w' → Calls Tryz.prog 72 #[.agg (secA f.page), .int .i64 1] w' fun e w'' => e = .returned (.int .u32 pg) ∧ Tch [] w3 w'') := fun w' ht => by
    rw [← HPG.out]; exact (pnumber_any f.page 1 (by omega) w').mono (by rintro e w'' ⟨h1, h2⟩; exact ⟨h1, ht.trans h2⟩)
  refine wp_region_walk (C := fun w' => Tch [] w3 w') 6 (by kernel_rfl) (by kernel_rfl) ((Tch.refl _ _).drew) ?_
  simp only [List.take_succ_cons, List.take_zero, List.drop_succ_cons, List.drop_zero]
  (repeat (first
      | ((with_reducible refine wq_load_framepage pageT.agg KF.out ?_ ?_ ?_); exact rfl; exact rfl; go_frame)
      | ((with_reducible refine wq_fn cf_number ?_ ?_ N0.out ?_); exact rfl; exact rfl; go_frame)
      | ((with_reducible refine wq_fn cf_number ?_ ?_ N1.out ?_); exact rfl; exact rfl; go_frame)
      | go_big_quiet_skip | (go_big_quiet_want; go_big_quiet_op; first | go_big_quiet_on | (refine ⟨_, fun _ _ => rfl, ?_⟩; go_big_quiet_on))))
  refine wpQuiet_nil ?_
  intro w6 ht6
  have T6 := Lib.hid (T3.out.trans ht6)
  have b6 := ht6.heap B3.out (by simp)
  have H6 := Lib.hid (H.out.touch T6.out (by simp) (by simp) (by simp) (by simp) (by simp))
  obtain ⟨q0, q1, q2, q3⟩ := frame_cell b6
  have c3 := H6.out.cell 3 rfl
  have B6 := Lib.hid b6
  have egm : (f.gen : Int).tmod 2 = (f.gen % 2 : Nat) := by rw [Int.tmod_eq_emod_of_nonneg (by omega)]; omega
  obtain ⟨gm, hgm⟩ : ∃ gm, f.gen % 2 = gm := ⟨_, rfl⟩
  rw [hgm] at egm
  have HGM := Lib.hid hgm
  have ei : IntKind.u64.wrap (i : Int) = i := by simp [IntKind.wrap, IntKind.bits, IntKind.signed]; omega
  clear KF N0 N1 B3 b6 ht6 hgm
  by_cases p1 : ob = true
  rotate_left
  · have E : Hid (S.chooses i s = S) := NO.out (fun hh => p1 (by rw [← HOB.out, decide_eq_true hh.1]))
    have pb : ob = false := by simpa using p1
    subst pb
    clear p1
    go_upto_region 3 with fail
    (refine wp_region_walk (C := fun w' => ∃ n, w' = World.drewN w6 n) 34 (by kernel_rfl) (by kernel_rfl) ⟨1, rfl⟩ ?_; simp only [List.take_succ_cons, List.take_zero, List.drop_succ_cons, List.drop_zero]; (repeat (first | fail | go_big_quiet_step (fail))); refine wpQuiet_nil ?_; intro _ hw'; obtain ⟨nq, hw''⟩ := hw'; subst hw'')
    go_wp2_with fail
    (try simp only [Exit.inBlock, Exit.then]); refine bodyPost_ret (results_none rfl _ _ _) rfl ?_
    rw [E.out]
    exact ⟨rfl, H6.out.touch (tch_drewN w6 nq) (by simp) (by simp) (by simp) (by simp) (by simp), (T6.out.trans (tch_drewN w6 nq)).mono (by simp)⟩
  subst p1
  by_cases p2 : f.kind = 1
  rotate_left
  · have E : Hid (S.chooses i s = S) := NO.out (fun hh => p2 hh.2.1)
    have pb : ((f.kind.toNat : Int) != 1) = true := by
      simp only [bne_iff_ne, ne_eq]
      intro e
      exact p2 (UInt8.toNat_inj.1 (by show f.kind.toNat = 1; omega))
    clear p2
    go_upto_region 3 with fail
    (refine wp_region_walk (C := fun w' => ∃ n, w' = World.drewN w6 n) 34 (by kernel_rfl) (by kernel_rfl) ⟨1, rfl⟩ ?_; simp only [List.take_succ_cons, List.take_zero, List.drop_succ_cons, List.drop_zero]; (repeat (first | fail | go_big_quiet_step (fail))); refine wpQuiet_nil ?_; intro _ hw'; obtain ⟨nq, hw''⟩ := hw'; subst hw'')
    go_wp2_with fail
    (try simp only [Exit.inBlock, Exit.then]); refine bodyPost_ret (results_none rfl _ _ _) rfl ?_
    rw [E.out]
    exact ⟨rfl, H6.out.touch (tch_drewN w6 nq) (by simp) (by simp) (by simp) (by simp) (by simp), (T6.out.trans (tch_drewN w6 nq)).mono (by simp)⟩
  have p2' : ((f.kind.toNat : Int) != 1) = false := by rw [p2]; rfl
  have P2 := Lib.hid p2
  clear p2
  by_cases p3 : f.num = 0
  rotate_left
  · have E : Hid (S.chooses i s = S) := NO.out (fun hh => p3 hh.2.2.1)
    have pb : ((f.num : Int) != 0) = true := by simp; omega
    clear p3
    go_upto_region 3 with fail
    (refine wp_region_walk (C := fun w' => ∃ n, w' = World.drewN w6 n) 34 (by kernel_rfl) (by kernel_rfl) ⟨1, rfl⟩ ?_; simp only [List.take_succ_cons, List.take_zero, List.drop_succ_cons, List.drop_zero]; (repeat (first | fail | go_big_quiet_step (fail))); refine wpQuiet_nil ?_; intro _ hw'; obtain ⟨nq, hw''⟩ := hw'; subst hw'')
    go_wp2_with fail
    (try simp only [Exit.inBlock, Exit.then]); refine bodyPost_ret (results_none rfl _ _ _) rfl ?_
    rw [E.out]
    exact ⟨rfl, H6.out.touch (tch_drewN w6 nq) (by simp) (by simp) (by simp) (by simp) (by simp), (T6.out.trans (tch_drewN w6 nq)).mono (by simp)⟩
  have p3' : ((f.num : Int) != 0) = false := by simp; omega
  have P3 := Lib.hid p3
  clear p3
  by_cases p4 : f.idx = 0
  rotate_left
  · have E : Hid (S.chooses i s = S) := NO.out (fun hh => p4 hh.2.2.2.1)
    have pb : ((f.idx : Int) != 0) = true := by simp; omega
    clear p4
    go_upto_region 3 with fail
    (refine wp_region_walk (C := fun w' => ∃ n, w' = World.drewN w6 n) 34 (by kernel_rfl) (by kernel_rfl) ⟨1, rfl⟩ ?_; simp only [List.take_succ_cons, List.take_zero, List.drop_succ_cons, List.drop_zero]; (repeat (first | fail | go_big_quiet_step (fail))); refine wpQuiet_nil ?_; intro _ hw'; obtain ⟨nq, hw''⟩ := hw'; subst hw'')
    go_wp2_with fail
    (try simp only [Exit.inBlock, Exit.then]); refine bodyPost_ret (results_none rfl _ _ _) rfl ?_
    rw [E.out]
    exact ⟨rfl, H6.out.touch (tch_drewN w6 nq) (by simp) (by simp) (by simp) (by simp) (by simp), (T6.out.trans (tch_drewN w6 nq)).mono (by simp)⟩
  have p4' : ((f.idx : Int) != 0) = false := by simp; omega
  have P4 := Lib.hid p4
  clear p4
  by_cases p5 : S.gen < f.gen
  rotate_left
  · have E : Hid (S.chooses i s = S) := NO.out (fun hh => p5 hh.2.2.2.2.1)
    have pb : (f.gen : Int) ≤ S.gen := by omega
    go_upto_region 3 with fail
    (refine wp_region_walk (C := fun w' => ∃ n, w' = World.drewN w6 n) 34 (by kernel_rfl) (by kernel_rfl) ⟨1, rfl⟩ ?_; simp only [List.take_succ_cons, List.take_zero, List.drop_succ_cons, List.drop_zero]; (repeat (first | fail | go_big_quiet_step (fail))); refine wpQuiet_nil ?_; intro _ hw'; obtain ⟨nq, hw''⟩ := hw'; subst hw'')
    go_wp2_with fail
    (try simp only [Exit.inBlock, Exit.then]); refine bodyPost_ret (results_none rfl _ _ _) rfl ?_
    rw [E.out]
    exact ⟨rfl, H6.out.touch (tch_drewN w6 nq) (by simp) (by simp) (by simp) (by simp) (by simp), (T6.out.trans (tch_drewN w6 nq)).mono (by simp)⟩
  have p5' : ¬ (f.gen : Int) ≤ S.gen := by omega
  by_cases p6 : gm = i
  rotate_left
  · have E : Hid (S.chooses i s = S) := NO.out (fun hh => p6 (by rw [← HGM.out]; exact hh.2.2.2.2.2.1))
    have pb : ((gm : Int) != i) = true := by simp; omega
    clear p6
    go_upto_region 3 with fail
    (refine wp_region_walk (C := fun w' => ∃ n, w' = World.drewN w6 n) 34 (by kernel_rfl) (by kernel_rfl) ⟨1, rfl⟩ ?_; simp only [List.take_succ_cons, List.take_zero, List.drop_succ_cons, List.drop_zero]; (repeat (first | fail | go_big_quiet_step (fail))); refine wpQuiet_nil ?_; intro _ hw'; obtain ⟨nq, hw''⟩ := hw'; subst hw'')
    go_wp2_with fail
    (try simp only [Exit.inBlock, Exit.then]); refine bodyPost_ret (results_none rfl _ _ _) rfl ?_
    rw [E.out]
    exact ⟨rfl, H6.out.touch (tch_drewN w6 nq) (by simp) (by simp) (by simp) (by simp) (by simp), (T6.out.trans (tch_drewN w6 nq)).mono (by simp)⟩
  have p6' : ((gm : Int) != i) = false := by simp; omega
  have P6 := Lib.hid p6
  clear p6
  go_upto_region 3 with fail
  (refine wp_region_walk (C := fun w' => ∃ n, w' = World.drewN w6 n) 34 (by kernel_rfl) (by kernel_rfl) ⟨1, rfl⟩ ?_; simp only [List.take_succ_cons, List.take_zero, List.drop_succ_cons, List.drop_zero]; (repeat (first | fail | go_big_quiet_step (fail))); refine wpQuiet_nil ?_; intro _ hw'; obtain ⟨nq, hw''⟩ := hw'; subst hw'')
  go_upto_region 4 with fail
  have T7 := Lib.hid (T6.out.trans (tch_drewN w6 nq))
  have H7 := Lib.hid (H6.out.touch (tch_drewN w6 nq) (by simp) (by simp) (by simp) (by simp) (by simp))
  have b7 := (tch_drewN w6 nq).heap B6.out (by simp)
  clear q0 q1 q2 q3 c3 T6 H6 B6 p2' p3' p4' p6' egm ei
  generalize w6.drewN nq = w7 at *
  have c0 := H7.out.cell 0 rfl
  have B7 := Lib.hid b7
  have HD := Lib.hid H7.out.hD
  have CSZ : Hid (∀ w', (∃ n, w' = World.drewN w7 n) → Calls Tryz.prog 38 #[.pointer (some ⟨d, 0, none⟩)] w' fun e w'' => e = .returned (.int .i64 len) ∧ ∃ n, w'' = World.drewN w7 n) := fun w' ⟨n, hn⟩ => by
    subst hn
    exact (size_any (HD.out.touch (tch_drewN w7 n) (by simp) (by simp) (by simp))).mono (by rintro e w'' ⟨h1, rfl⟩; exact ⟨by rw [h1, LEN.out], n, rfl⟩)
  clear b7
  by_cases q1 : 3 ≤ lg
  rotate_left
  · have E : Hid (S.chooses i s = S) := NO.out (fun hh => q1 hh.2.2.2.2.2.2.1)
    have pb : (lg : Int) < 3 := by omega
    (refine wp_region_walk (C := fun w' => ∃ n, w' = World.drewN w7 n) 36 (by kernel_rfl) (by kernel_rfl) ⟨1, rfl⟩ ?_; simp only [List.take_succ_cons, List.take_zero, List.drop_succ_cons, List.drop_zero]; (repeat (first | ((with_reducible refine wq_fn cf_size ?_ ?_ CSZ.out ?_); exact rfl; exact rfl; go_frame) | go_big_quiet_step (fail))); refine wpQuiet_nil ?_; intro _ hw'; obtain ⟨nq, hw''⟩ := hw'; subst hw'')
    go_wp2_with fail
    (try simp only [Exit.inBlock, Exit.then]); refine bodyPost_ret (results_none rfl _ _ _) rfl ?_
    rw [E.out]
    exact ⟨rfl, H7.out.touch (tch_drewN w7 nq) (by simp) (by simp) (by simp) (by simp) (by simp), (T7.out.trans (tch_drewN w7 nq)).mono (by simp)⟩
  have q1' : ¬ (lg : Int) < 3 := by omega
  by_cases q2 : lg ≤ 4000
  rotate_left
  · have E : Hid (S.chooses i s = S) := NO.out (fun hh => q2 hh.2.2.2.2.2.2.2.1)
    have pb : (4000 : Int) < lg := by omega
    (refine wp_region_walk (C := fun w' => ∃ n, w' = World.drewN w7 n) 36 (by kernel_rfl) (by kernel_rfl) ⟨1, rfl⟩ ?_; simp only [List.take_succ_cons, List.take_zero, List.drop_succ_cons, List.drop_zero]; (repeat (first | ((with_reducible refine wq_fn cf_size ?_ ?_ CSZ.out ?_); exact rfl; exact rfl; go_frame) | go_big_quiet_step (fail))); refine wpQuiet_nil ?_; intro _ hw'; obtain ⟨nq, hw''⟩ := hw'; subst hw'')
    go_wp2_with fail
    (try simp only [Exit.inBlock, Exit.then]); refine bodyPost_ret (results_none rfl _ _ _) rfl ?_
    rw [E.out]
    exact ⟨rfl, H7.out.touch (tch_drewN w7 nq) (by simp) (by simp) (by simp) (by simp) (by simp), (T7.out.trans (tch_drewN w7 nq)).mono (by simp)⟩
  have q2' : ¬ (4000 : Int) < lg := by omega
  by_cases q3 : 1 ≤ pg
  rotate_left
  · have E : Hid (S.chooses i s = S) := NO.out (fun hh => q3 hh.2.2.2.2.2.2.2.2.1)
    have pb : (pg : Int) < 1 := by omega
    (refine wp_region_walk (C := fun w' => ∃ n, w' = World.drewN w7 n) 36 (by kernel_rfl) (by kernel_rfl) ⟨1, rfl⟩ ?_; simp only [List.take_succ_cons, List.take_zero, List.drop_succ_cons, List.drop_zero]; (repeat (first | ((with_reducible refine wq_fn cf_size ?_ ?_ CSZ.out ?_); exact rfl; exact rfl; go_frame) | go_big_quiet_step (fail))); refine wpQuiet_nil ?_; intro _ hw'; obtain ⟨nq, hw''⟩ := hw'; subst hw'')
    go_wp2_with fail
    (try simp only [Exit.inBlock, Exit.then]); refine bodyPost_ret (results_none rfl _ _ _) rfl ?_
    rw [E.out]
    exact ⟨rfl, H7.out.touch (tch_drewN w7 nq) (by simp) (by simp) (by simp) (by simp) (by simp), (T7.out.trans (tch_drewN w7 nq)).mono (by simp)⟩
  have q3' : ¬ (pg : Int) < 1 := by omega
  by_cases q4 : pg ≤ 16384
  rotate_left
  · have E : Hid (S.chooses i s = S) := NO.out (fun hh => q4 hh.2.2.2.2.2.2.2.2.2.1)
    have pb : (16384 : Int) < pg := by omega
    (refine wp_region_walk (C := fun w' => ∃ n, w' = World.drewN w7 n) 36 (by kernel_rfl) (by kernel_rfl) ⟨1, rfl⟩ ?_; simp only [List.take_succ_cons, List.take_zero, List.drop_succ_cons, List.drop_zero]; (repeat (first | ((with_reducible refine wq_fn cf_size ?_ ?_ CSZ.out ?_); exact rfl; exact rfl; go_frame) | go_big_quiet_step (fail))); refine wpQuiet_nil ?_; intro _ hw'; obtain ⟨nq, hw''⟩ := hw'; subst hw'')
    go_wp2_with fail
    (try simp only [Exit.inBlock, Exit.then]); refine bodyPost_ret (results_none rfl _ _ _) rfl ?_
    rw [E.out]
    exact ⟨rfl, H7.out.touch (tch_drewN w7 nq) (by simp) (by simp) (by simp) (by simp) (by simp), (T7.out.trans (tch_drewN w7 nq)).mono (by simp)⟩
  have q4' : ¬ (16384 : Int) < pg := by omega
  have W71 : IntKind.u32.wrap ((2 : Int) + lg) = 2 + lg := by simp [IntKind.wrap, IntKind.bits, IntKind.signed]; omega
  have W73 : IntKind.u32.wrap ((2 : Int) + lg + pg) = 2 + lg + pg := by simp [IntKind.wrap, IntKind.bits, IntKind.signed]; omega
  have W74 : IntKind.i64.wrap ((2 : Int) + lg + pg) = 2 + lg + pg := by simp [IntKind.wrap, IntKind.bits, IntKind.signed]; omega
  by_cases q5 : 2 + lg + pg = len
  rotate_left
  · have E : Hid (S.chooses i s = S) := NO.out (fun hh => q5 hh.2.2.2.2.2.2.2.2.2.2.1)
    have pb : ((2 + (lg : Int) + pg) != len) = true := by simp; omega
    (refine wp_region_walk (C := fun w' => ∃ n, w' = World.drewN w7 n) 36 (by kernel_rfl) (by kernel_rfl) ⟨1, rfl⟩ ?_; simp only [List.take_succ_cons, List.take_zero, List.drop_succ_cons, List.drop_zero]; (repeat (first | ((with_reducible refine wq_fn cf_size ?_ ?_ CSZ.out ?_); exact rfl; exact rfl; go_frame) | go_big_quiet_step (fail))); refine wpQuiet_nil ?_; intro _ hw'; obtain ⟨nq, hw''⟩ := hw'; subst hw'')
    go_wp2_with fail
    (try simp only [Exit.inBlock, Exit.then]); refine bodyPost_ret (results_none rfl _ _ _) rfl ?_
    rw [E.out]
    exact ⟨rfl, H7.out.touch (tch_drewN w7 nq) (by simp) (by simp) (by simp) (by simp) (by simp), (T7.out.trans (tch_drewN w7 nq)).mono (by simp)⟩
  have q5' : ((2 + (lg : Int) + pg) != len) = false := by simp; omega
  clear CSZ
  have pgx : f.page = f.page := rfl
  refine wp_region_valt 34 (fun w' => Tch [] w7 w') (KCho g d F lg pg len f.page) (by kernel_rfl) (by kernel_rfl) (by kernel_rfl) ((Tch.refl _ _).drew) (fun w4 w5 _ _ ht i v hk => hk.later ht) ?_ ?_
  · intro i o hi ho fu w' hC hold hdep
    have c0' := cell_old hC c0
    have hi7 : i = 0 ∨ i = 1 ∨ i = 2 ∨ i = 3 ∨ i = 4 ∨ i = 5 ∨ i = 6 ∨ i = 7 ∨ i = 8 ∨ i = 9 ∨ i = 10 ∨ i = 11 ∨ i = 12 ∨ i = 13 ∨ i = 14 ∨ i = 15 ∨ i = 16 ∨ i = 17 ∨ i = 18 ∨ i = 19 ∨ i = 20 ∨ i = 21 ∨ i = 22 ∨ i = 23 ∨ i = 24 ∨ i = 25 ∨ i = 26 ∨ i = 27 ∨ i = 28 ∨ i = 29 ∨ i = 30 ∨ i = 31 ∨ i = 32 ∨ i = 33 := by omega
    rcases hi7 with rfl | rfl | rfl | rfl | rfl | rfl | rfl | rfl | rfl | rfl | rfl | rfl | rfl | rfl | rfl | rfl | rfl | rfl | rfl | rfl | rfl | rfl | rfl | rfl | rfl | rfl | rfl | rfl | rfl | rfl | rfl | rfl | rfl | rfl
    all_goals (simp only [List.getElem?_cons_zero, List.getElem?_cons_succ, Option.some.injEq] at ho; subst ho)
    · refine step_plain rfl ?_
      have x8 : fu.tmps[8]?.getD undef = .int .u32 lg := ev_tmp (hold 8 (by show _ < 106; omega) (by kernel_rfl))
      go_simp
      exact ⟨rfl, Tch.refl _ _⟩
    · refine step_plain rfl ?_
      have x55 : fu.tmps[55]?.getD undef = .int .u32 lg := ev_tmp (hdep 0 55 (by show _ < 106; omega) (by kernel_rfl) (by kernel_rfl))
      go_simp
      exact ⟨rfl, Tch.refl _ _⟩
    · refine step_plain rfl ?_
      have x56 : fu.tmps[56]?.getD undef = .bool false := ev_tmp (hdep 1 56 (by show _ < 106; omega) (by kernel_rfl) (by kernel_rfl))
      go_simp
      exact ⟨rfl, Tch.refl _ _⟩
    · refine step_guard (d := 57) rfl (by kernel_rfl) (ev_tmp (hdep 2 57 (by show _ < 106; omega) (by kernel_rfl) (by kernel_rfl))) ?_
      have x8 : fu.tmps[8]?.getD undef = .int .u32 lg := ev_tmp (hold 8 (by show _ < 106; omega) (by kernel_rfl))
      go_simp
      exact ⟨rfl, Tch.refl _ _⟩
    · refine step_guard (d := 57) rfl (by kernel_rfl) (ev_tmp (hdep 2 57 (by show _ < 106; omega) (by kernel_rfl) (by kernel_rfl))) ?_
      have x58 : fu.tmps[58]?.getD undef = .int .u32 lg := ev_tmp (hdep 3 58 (by show _ < 106; omega) (by kernel_rfl) (by kernel_rfl))
      go_simp
      exact ⟨rfl, Tch.refl _ _⟩
    · refine step_plain rfl ?_
      have x57 : fu.tmps[57]?.getD undef = .bool false := ev_tmp (hdep 2 57 (by show _ < 106; omega) (by kernel_rfl) (by kernel_rfl))
      have x59 : fu.tmps[59]?.getD undef = .bool false := ev_tmp (hdep 4 59 (by show _ < 106; omega) (by kernel_rfl) (by kernel_rfl))
      go_simp
      exact ⟨rfl, Tch.refl _ _⟩
    · refine step_plain rfl ?_
      have x60 : fu.tmps[60]?.getD undef = .bool false := ev_tmp (hdep 5 60 (by show _ < 106; omega) (by kernel_rfl) (by kernel_rfl))
      go_simp
      exact ⟨rfl, Tch.refl _ _⟩
    · refine step_guard (d := 61) rfl (by kernel_rfl) (ev_tmp (hdep 6 61 (by show _ < 106; omega) (by kernel_rfl) (by kernel_rfl))) ?_
      have x9 : fu.tmps[9]?.getD undef = .int .u32 pg := ev_tmp (hold 9 (by show _ < 106; omega) (by kernel_rfl))
      go_simp
      exact ⟨rfl, Tch.refl _ _⟩
    · refine step_guard (d := 61) rfl (by kernel_rfl) (ev_tmp (hdep 6 61 (by show _ < 106; omega) (by kernel_rfl) (by kernel_rfl))) ?_
      have x62 : fu.tmps[62]?.getD undef = .int .u32 pg := ev_tmp (hdep 7 62 (by show _ < 106; omega) (by kernel_rfl) (by kernel_rfl))
      go_simp
      exact ⟨rfl, Tch.refl _ _⟩
    · refine step_plain rfl ?_
      have x61 : fu.tmps[61]?.getD undef = .bool false := ev_tmp (hdep 6 61 (by show _ < 106; omega) (by kernel_rfl) (by kernel_rfl))
      have x63 : fu.tmps[63]?.getD undef = .bool false := ev_tmp (hdep 8 63 (by show _ < 106; omega) (by kernel_rfl) (by kernel_rfl))
      go_simp
      exact ⟨rfl, Tch.refl _ _⟩
    · refine step_plain rfl ?_
      have x64 : fu.tmps[64]?.getD undef = .bool false := ev_tmp (hdep 9 64 (by show _ < 106; omega) (by kernel_rfl) (by kernel_rfl))
      go_simp
      exact ⟨rfl, Tch.refl _ _⟩
    · refine step_guard (d := 65) rfl (by kernel_rfl) (ev_tmp (hdep 10 65 (by show _ < 106; omega) (by kernel_rfl) (by kernel_rfl))) ?_
      have x9 : fu.tmps[9]?.getD undef = .int .u32 pg := ev_tmp (hold 9 (by show _ < 106; omega) (by kernel_rfl))
      go_simp
      exact ⟨rfl, Tch.refl _ _⟩
    · refine step_guard (d := 65) rfl (by kernel_rfl) (ev_tmp (hdep 10 65 (by show _ < 106; omega) (by kernel_rfl) (by kernel_rfl))) ?_
      have x66 : fu.tmps[66]?.getD undef = .int .u32 pg := ev_tmp (hdep 11 66 (by show _ < 106; omega) (by kernel_rfl) (by kernel_rfl))
      go_simp
      exact ⟨rfl, Tch.refl _ _⟩
    · refine step_plain rfl ?_
      have x65 : fu.tmps[65]?.getD undef = .bool false := ev_tmp (hdep 10 65 (by show _ < 106; omega) (by kernel_rfl) (by kernel_rfl))
      have x67 : fu.tmps[67]?.getD undef = .bool false := ev_tmp (hdep 12 67 (by show _ < 106; omega) (by kernel_rfl) (by kernel_rfl))
      go_simp
      exact ⟨rfl, Tch.refl _ _⟩
    · refine step_plain rfl ?_
      have x68 : fu.tmps[68]?.getD undef = .bool false := ev_tmp (hdep 13 68 (by show _ < 106; omega) (by kernel_rfl) (by kernel_rfl))
      go_simp
      exact ⟨rfl, Tch.refl _ _⟩
    · refine step_guard (d := 69) rfl (by kernel_rfl) (ev_tmp (hdep 14 69 (by show _ < 106; omega) (by kernel_rfl) (by kernel_rfl))) ?_
      have x8 : fu.tmps[8]?.getD undef = .int .u32 lg := ev_tmp (hold 8 (by show _ < 106; omega) (by kernel_rfl))
      go_simp
      exact ⟨rfl, Tch.refl _ _⟩
    · refine step_guard (d := 69) rfl (by kernel_rfl) (ev_tmp (hdep 14 69 (by show _ < 106; omega) (by kernel_rfl) (by kernel_rfl))) ?_
      have x70 : fu.tmps[70]?.getD undef = .int .u32 lg := ev_tmp (hdep 15 70 (by show _ < 106; omega) (by kernel_rfl) (by kernel_rfl))
      go_simp
      exact ⟨rfl, Tch.refl _ _⟩
    · refine step_guard (d := 69) rfl (by kernel_rfl) (ev_tmp (hdep 14 69 (by show _ < 106; omega) (by kernel_rfl) (by kernel_rfl))) ?_
      have x9 : fu.tmps[9]?.getD undef = .int .u32 pg := ev_tmp (hold 9 (by show _ < 106; omega) (by kernel_rfl))
      go_simp
      exact ⟨rfl, Tch.refl _ _⟩
    · refine step_guard (d := 69) rfl (by kernel_rfl) (ev_tmp (hdep 14 69 (by show _ < 106; omega) (by kernel_rfl) (by kernel_rfl))) ?_
      have x71 : fu.tmps[71]?.getD undef = .int .u32 (2 + lg) := ev_tmp (hdep 16 71 (by show _ < 106; omega) (by kernel_rfl) (by kernel_rfl))
      have x72 : fu.tmps[72]?.getD undef = .int .u32 pg := ev_tmp (hdep 17 72 (by show _ < 106; omega) (by kernel_rfl) (by kernel_rfl))
      go_simp
      exact ⟨rfl, Tch.refl _ _⟩
    · refine step_guard (d := 69) rfl (by kernel_rfl) (ev_tmp (hdep 14 69 (by show _ < 106; omega) (by kernel_rfl) (by kernel_rfl))) ?_
      have x73 : fu.tmps[73]?.getD undef = .int .u32 (2 + lg + pg) := ev_tmp (hdep 18 73 (by show _ < 106; omega) (by kernel_rfl) (by kernel_rfl))
      go_simp
      exact ⟨rfl, Tch.refl _ _⟩
    · refine step_guard (d := 69) rfl (by kernel_rfl) (ev_tmp (hdep 14 69 (by show _ < 106; omega) (by kernel_rfl) (by kernel_rfl))) ?_
      have x0 : fu.tmps[0]?.getD undef = .pointer (some ⟨g, 0, none⟩) := ev_tmp (hold 0 (by show _ < 106; omega) (by kernel_rfl))
      go_simp
      exact ⟨rfl, Tch.refl _ _⟩
    · refine step_guard (d := 69) rfl (by kernel_rfl) (ev_tmp (hdep 14 69 (by show _ < 106; omega) (by kernel_rfl) (by kernel_rfl))) ?_
      have x75 : fu.tmps[75]?.getD undef = .pointer (some ⟨g, 0, none⟩) := ev_tmp (hdep 20 75 (by show _ < 106; omega) (by kernel_rfl) (by kernel_rfl))
      go_simp
      exact ⟨rfl, Tch.refl _ _⟩
    · refine step_guard (d := 69) rfl (by kernel_rfl) (ev_tmp (hdep 14 69 (by show _ < 106; omega) (by kernel_rfl) (by kernel_rfl))) ?_
      have x76 : fu.tmps[76]?.getD undef = .pointer (some ⟨g, 0, none⟩) := ev_tmp (hdep 21 76 (by show _ < 106; omega) (by kernel_rfl) (by kernel_rfl))
      go_simp
      exact ⟨rfl, Tch.refl _ _⟩
    · refine step_guard (d := 69) rfl (by kernel_rfl) (ev_tmp (hdep 14 69 (by show _ < 106; omega) (by kernel_rfl) (by kernel_rfl))) ?_
      have x77 : fu.tmps[77]?.getD undef = .pointer (some ⟨g, 0, none⟩) := ev_tmp (hdep 22 77 (by show _ < 106; omega) (by kernel_rfl) (by kernel_rfl))
      go_simp
      exact ⟨rfl, Tch.refl _ _⟩
    · refine step_guard (d := 69) rfl (by kernel_rfl) (ev_tmp (hdep 14 69 (by show _ < 106; omega) (by kernel_rfl) (by kernel_rfl))) ?_
      have x78 : fu.tmps[78]?.getD undef = .pointer (some ⟨d, 0, none⟩) := ev_tmp (hdep 23 78 (by show _ < 106; omega) (by kernel_rfl) (by kernel_rfl))
      go_simp
      refine (size_any (HD.out.touch hC (by simp) (by simp) (by simp))).mono ?_
      rintro e w5 ⟨rfl, rfl⟩
      exact ⟨_, rfl, by rw [LEN.out]; rfl, hC, Tch.refl _ _⟩
    · refine step_guard (d := 69) rfl (by kernel_rfl) (ev_tmp (hdep 14 69 (by show _ < 106; omega) (by kernel_rfl) (by kernel_rfl))) ?_
      have x74 : fu.tmps[74]?.getD undef = .int .i64 (2 + lg + pg) := ev_tmp (hdep 19 74 (by show _ < 106; omega) (by kernel_rfl) (by kernel_rfl))
      have x79 : fu.tmps[79]?.getD undef = .int .i64 len := ev_tmp (hdep 24 79 (by show _ < 106; omega) (by kernel_rfl) (by kernel_rfl))
      go_simp
      exact ⟨rfl, Tch.refl _ _⟩
    · refine step_plain rfl ?_
      have x69 : fu.tmps[69]?.getD undef = .bool false := ev_tmp (hdep 14 69 (by show _ < 106; omega) (by kernel_rfl) (by kernel_rfl))
      have x80 : fu.tmps[80]?.getD undef = .bool false := ev_tmp (hdep 25 80 (by show _ < 106; omega) (by kernel_rfl) (by kernel_rfl))
      go_simp
      exact ⟨rfl, Tch.refl _ _⟩
    · refine step_plain rfl ?_
      have x81 : fu.tmps[81]?.getD undef = .bool false := ev_tmp (hdep 26 81 (by show _ < 106; omega) (by kernel_rfl) (by kernel_rfl))
      go_simp
      exact ⟨rfl, Tch.refl _ _⟩
    · refine step_guard (d := 82) rfl (by kernel_rfl) (ev_tmp (hdep 27 82 (by show _ < 106; omega) (by kernel_rfl) (by kernel_rfl))) ?_
      have x6 : fu.tmps[6]?.getD undef = .pointer (some ⟨F, 0, none⟩) := ev_tmp (hold 6 (by show _ < 106; omega) (by kernel_rfl))
      go_simp
      exact ⟨rfl, Tch.refl _ _⟩
    · refine step_guard (d := 82) rfl (by kernel_rfl) (ev_tmp (hdep 27 82 (by show _ < 106; omega) (by kernel_rfl) (by kernel_rfl))) ?_
      have x83 : fu.tmps[83]?.getD undef = .pointer (some ⟨F, 4, none⟩) := ev_tmp (hdep 28 83 (by show _ < 106; omega) (by kernel_rfl) (by kernel_rfl))
      have x83' : fu.eval (.tmp 83) = .pointer (some ⟨F, 4, none⟩) := by show fu.tmps.getD 83 undef = _; rw [Array.getD_eq_getD_getElem?]; exact x83
      exact stpR_ok (exec_load_framepage pageT.agg rfl (hC.heap B7.out (by simp)) x83') ⟨rfl, hC, Tch.refl _ _⟩
    · refine step_guard (d := 82) rfl (by kernel_rfl) (ev_tmp (hdep 27 82 (by show _ < 106; omega) (by kernel_rfl) (by kernel_rfl))) ?_
      have x8 : fu.tmps[8]?.getD undef = .int .u32 lg := ev_tmp (hold 8 (by show _ < 106; omega) (by kernel_rfl))
      go_simp
      exact ⟨rfl, Tch.refl _ _⟩
    · refine step_guard (d := 82) rfl (by kernel_rfl) (ev_tmp (hdep 27 82 (by show _ < 106; omega) (by kernel_rfl) (by kernel_rfl))) ?_
      have x9 : fu.tmps[9]?.getD undef = .int .u32 pg := ev_tmp (hold 9 (by show _ < 106; omega) (by kernel_rfl))
      go_simp
      exact ⟨rfl, Tch.refl _ _⟩
    · refine step_guard (d := 82) rfl (by kernel_rfl) (ev_tmp (hdep 27 82 (by show _ < 106; omega) (by kernel_rfl) (by kernel_rfl))) ?_
      have x85 : fu.tmps[85]?.getD undef = .int .u32 lg := ev_tmp (hdep 30 85 (by show _ < 106; omega) (by kernel_rfl) (by kernel_rfl))
      have x86 : fu.tmps[86]?.getD undef = .int .u32 pg := ev_tmp (hdep 31 86 (by show _ < 106; omega) (by kernel_rfl) (by kernel_rfl))
      go_simp
      exact ⟨⟨_, rfl, nums_two _ _ _⟩, hC.alloc _, (Tch.refl _ _).alloc _⟩
    · refine step_guard (d := 82) rfl (by kernel_rfl) (ev_tmp (hdep 27 82 (by show _ < 106; omega) (by kernel_rfl) (by kernel_rfl))) ?_
      have x87 := hdep 32 87 (by show _ < 106; omega) (by kernel_rfl) (by kernel_rfl)
      obtain ⟨k, e19, h19⟩ := x87
      have x87 := ev_tmp e19
      have HN := Lib.hid (numbers_any (cap := 2) h19 (by simp) (by simp; omega))
      clear h19
      go_simp
      refine HN.out.mono ?_
      rintro e w5 ⟨rfl, q2⟩
      exact ⟨_, rfl, rfl, hC.trans q2, q2⟩
  · intro vs w8 hC hK
    have x27 : vs 27 = .bool false := hK 27 (by omega)
    have x29 : vs 29 = .agg (secA f.page) := hK 29 (by omega)
    have x33 : vs 33 = .agg (secA (numsPage [lg, pg])) := hK 33 (by omega)
    have X27 := Lib.hid x27
    have X29 := Lib.hid x29
    have X33 := Lib.hid x33
    have T8 := Lib.hid (T7.out.trans hC)
    have H8 := Lib.hid (H7.out.touch hC (by simp) (by simp) (by simp) (by simp) (by simp))
    have b8 := hC.heap B7.out (by simp)
    have r1 := (frame_cell b8).2.1
    clear hK hC x27 x29 x33 b8 c0
    unfold fullOf
    rw [show (List.range 34).map vs = [vs 0, vs 1, vs 2, vs 3, vs 4, vs 5, vs 6, vs 7, vs 8, vs 9, vs 10, vs 11, vs 12, vs 13, vs 14, vs 15, vs 16, vs 17, vs 18, vs 19, vs 20, vs 21, vs 22, vs 23, vs 24, vs 25, vs 26, vs 27, vs 28, vs 29, vs 30, vs 31, vs 32, vs 33] from rfl, X27.out, X29.out, X33.out]
    generalize vs 0 = v0
    generalize vs 1 = v1
    generalize vs 2 = v2
    generalize vs 3 = v3
    generalize vs 4 = v4
    generalize vs 5 = v5
    generalize vs 6 = v6
    generalize vs 7 = v7
    generalize vs 8 = v8
    generalize vs 9 = v9
    generalize vs 10 = v10
    generalize vs 11 = v11
    generalize vs 12 = v12
    generalize vs 13 = v13
    generalize vs 14 = v14
    generalize vs 15 = v15
    generalize vs 16 = v16
    generalize vs 17 = v17
    generalize vs 18 = v18
    generalize vs 19 = v19
    generalize vs 20 = v20
    generalize vs 21 = v21
    generalize vs 22 = v22
    generalize vs 23 = v23
    generalize vs 24 = v24
    generalize vs 25 = v25
    generalize vs 26 = v26
    generalize vs 28 = v28
    generalize vs 30 = v30
    generalize vs 31 = v31
    generalize vs 32 = v32
    clear X27 X29 X33 vs
    simp only [List.take_succ_cons, List.take_zero, List.drop_succ_cons, List.drop_zero, putAll]
    go_frame
    by_cases q6 : f.page = numsPage [lg, pg]
    · have hb : decide (f.page = numsPage [lg, pg]) = true := by simp [← q6]
      have E : Hid (S.chooses i s = { S with gen := f.gen, log := lg, pages := pg }) := YES.out ⟨of_decide_eq_true HOB.out, P2.out, P3.out, P4.out, p5, by rw [HGM.out]; exact P6.out, q1, q2, q3, q4, q5, q6⟩
      have hg8 := lt_of_heap H8.out.hg
      have f3 := H8.out.froz 3
      have f1 := H8.out.froz 1
      have f2 := H8.out.froz 2
      have c3 := H8.out.cell 3 rfl
      have c1 := H8.out.cell 1 rfl
      have c2 := H8.out.cell 2 rfl
      clear q6
      refine wcg_neq_arr pageT (s := f.page) (t := numsPage [lg, pg]) rfl rfl rfl ?_
      rw [hb]
      go_frame
      go_wp2_with fail
      go_end0
      have hh := H8.out
      have ht : Tch [g] w8 (((w8.setCell ⟨g, 3, none⟩ (.int .u64 f.gen)).setCell ⟨g, 1, none⟩ (.int .i64 lg)).setCell ⟨g, 2, none⟩ (.int .i64 pg)) := (((Tch.refl _ _).setCell (by simp) _).setCell (by simp) _).setCell (by simp) _
      rw [E.out]
      refine ⟨rfl, ⟨?_, hh.hD.touch ht (by simpa using hh.gd.symm) (by simpa using hh.gL.symm) (by simpa using hh.gM.symm), hh.hV.touch ht (by simpa using hh.gV.symm), hh.gd, hh.gL, hh.gM, hh.gV, hh.dV, hh.LV, hh.MV⟩, (T8.out.mono (by simp)).trans ht⟩
      rw [heap_setCell_cells (heap_setCell_cells (heap_setCell_cells hh.hg _ _) _ _) _ _]; rfl
    · have hb : decide (f.page = numsPage [lg, pg]) = false := by simp [q6]
      have E : Hid (S.chooses i s = S) := NO.out (fun hh => q6 hh.2.2.2.2.2.2.2.2.2.2.2)
      clear q6
      refine wcg_neq_arr pageT (s := f.page) (t := numsPage [lg, pg]) rfl rfl rfl ?_
      rw [hb]
      go_frame
      go_wp2_with fail
      (try simp only [Exit.inBlock, Exit.then]); refine bodyPost_ret (results_none rfl _ _ _) rfl ?_
      rw [E.out]
      exact ⟨rfl, H8.out, T8.out.mono (by simp)⟩
end Go.Proofs.YthbaipljlbddcaaGreat
/-
  What lies on a disk: package wal's Open.
-/
namespace Go.Cib
open Go Go.RowKit
namespace LogS
theorem chooses_keep (S : LogS) (i : Nat) (s : Sec) : (S.chooses i s).disk = S.disk ∧ (S.chooses i s).used = S.used ∧ (S.chooses i s).records = S.records ∧ (S.chooses i s).over = S.over ∧ (S.chooses i s).dead = S.dead := by
  unfold LogS.chooses; split <;> exact ⟨rfl, rfl, rfl, rfl, rfl⟩
/-- What a head that counts says. -/
structure HeadOk (S : LogS) : Prop where
  log3 : 3 ≤ S.log
  log4 : S.log ≤ 4000
  pages1 : 1 ≤ S.pages
  pages2 : S.pages ≤ 16384
  size : 2 + S.log + S.pages = S.disk.lasts.length
  gen : S.gen < 18446744073709551616
theorem chooses_ok (S : LogS) (i : Nat) (s : Sec) (h : S.gen = 0 ∨ S.HeadOk) : (S.chooses i s).gen = 0 ∨ (S.chooses i s).HeadOk := by
  unfold LogS.chooses
  split
  · rename_i hc
    obtain ⟨_, _, _, _, _, _, h1, h2, h3, h4, h5, _⟩ := hc
    exact .inr ⟨h1, h2, h3, h4, h5, (parse_ok s).gen⟩
  · exact h
theorem overs_sup {N : Nat} (ws : List (Nat × Page)) (h : ∀ q ∈ ws, q.1 < N) : ∀ (o : Int → Option Page), (∀ i x, o i = some x → 0 ≤ i ∧ i < N) → ∀ i x, overs o ws i = some x → 0 ≤ i ∧ i < N := by
  induction ws with
  | nil => exact fun o ho => ho
  | cons q ws ih =>
    intro o ho
    refine ih (fun r hr => h r (List.mem_cons_of_mem _ hr)) _ ?_
    intro i x hx
    change (if i = (q.1 : Int) then some q.2 else o i) = some x at hx
    by_cases e : i = (q.1 : Int)
    · have := h q (by simp); omega
    · rw [if_neg e] at hx; exact ho i x hx
theorem Ok.took {S : LogS} (h : S.Ok) {ws : List (Nat × Page)} (hu : S.used + ws.length + 2 ≤ S.log) (hw : ∀ q ∈ ws, q.1 < S.pages) : (S.took ws).Ok :=
  ⟨h.log3, h.log4, h.pages1, h.pages2, h.size, hu, by have := h.records; show S.records + 1 ≤ S.used + ws.length + 2; omega, h.gen, overs_sup ws hw S.over h.over⟩
theorem record_some {S : LogS} {ws : List (Nat × Page)} (h : S.record = some ws) : 1 ≤ ws.length ∧ S.used + ws.length + 2 ≤ S.log ∧ ∀ q ∈ ws, q.1 < S.pages := by
  unfold LogS.record at h
  split at h
  · rename_i hc
    have e : S.images (S.atF S.used) = ws := Option.some.inj h
    have hl : ws.length = (S.atF S.used).idx := by rw [← e]; simp [LogS.images]
    refine ⟨by omega, by omega, fun q hq => ?_⟩
    rw [← e] at hq
    obtain ⟨k, hk, rfl⟩ := List.mem_map.1 hq
    have hls := hc.2.2.2.2.1
    unfold LogS.listed at hls
    simp only [Bool.and_eq_true, decide_eq_true_eq] at hls
    exact hls.1.1 _ (List.mem_map.2 ⟨k, hk, rfl⟩)
  · cases h
/-- One record more, or none. -/
theorem runs_succ (n : Nat) (S : LogS) : S.runs (n + 1) = match S.record with | none => S | some w => (S.took w).runs n := rfl
theorem runs_ok : ∀ (n : Nat) (S : LogS), S.Ok → (S.runs n).Ok ∧ (S.runs n).disk = S.disk
  | 0, S, h => ⟨h, rfl⟩
  | n + 1, S, h => by
    rw [runs_succ]
    cases hr : S.record with
    | none => exact ⟨h, rfl⟩
    | some w =>
      obtain ⟨h1, h2, h3⟩ := record_some hr
      obtain ⟨k1, k2⟩ := runs_ok n (S.took w) (h.took h2 h3)
      exact ⟨k1, k2⟩
/-- Enough rounds are enough. -/
theorem runs_stop : ∀ (n : Nat) (S : LogS), S.record = none → S.runs n = S
  | 0, _, _ => rfl
  | n + 1, S, h => by rw [runs_succ, h]
end LogS
end Go.Cib
namespace Go.Proofs.YthbaipljlbddcaaGreat
open Go.RowKit Go.Cib
theorem RecOk.of {S : LogS} (h : S.Ok) (hd : S.disk.dead = false) : RecOk S :=
  ⟨hd, by have := h.size; omega, h.log4, h.used, by have := h.records; have := h.used; have := h.log4; omega, h.pages2⟩
end Go.Proofs.YthbaipljlbddcaaGreat
/-
  What lies on a disk: package wal's Open.
-/
namespace Go.Proofs.YthbaipljlbddcaaGreat
open Go.RowKit Go.Cib
/-- The log behind so many heads. -/
def headsN (D : DiskS) : Nat → LogS
  | 0 => LogS.blank D
  | 1 => (LogS.blank D).chooses 0 (D.read 0).1
  | _ => LogS.heads D
theorem headsN_succ (D : DiskS) (k : Nat) (hk : k < 2) : headsN D (k + 1) = (headsN D k).chooses k (D.read (k : Nat)).1 := by
  match k, hk with
  | 0, _ => rfl
  | 1, _ => rfl
theorem headsN_keep (D : DiskS) (k : Nat) : (headsN D k).disk = D ∧ (headsN D k).used = 0 ∧ (headsN D k).records = 0 ∧ (headsN D k).over = (fun _ => none) ∧ (headsN D k).dead = false := by
  match k with
  | 0 => exact ⟨rfl, rfl, rfl, rfl, rfl⟩
  | 1 => exact LogS.chooses_keep _ _ _
  | n + 2 =>
    obtain ⟨a1, a2, a3, a4, a5⟩ := LogS.chooses_keep (LogS.blank D) 0 (D.read 0).1
    obtain ⟨b1, b2, b3, b4, b5⟩ := LogS.chooses_keep ((LogS.blank D).chooses 0 (D.read 0).1) 1 (D.read 1).1
    exact ⟨b1.trans a1, b2.trans a2, b3.trans a3, b4.trans a4, b5.trans a5⟩
theorem heads_ok (D : DiskS) (hg : (LogS.heads D).gen ≠ 0) : (LogS.heads D).Ok := by
  obtain ⟨h1, h2, h3, h4, h5⟩ := headsN_keep D 2
  have h := LogS.chooses_ok _ 1 (D.read 1).1 (LogS.chooses_ok (LogS.blank D) 0 (D.read 0).1 (.inl rfl))
  rcases h with h | h
  · exact absurd h hg
  · exact ⟨h.log3, h.log4, h.pages1, h.pages2, h.size, by show (headsN D 2).used ≤ _; rw [h2]; omega, by show (headsN D 2).records ≤ _; rw [h3]; omega, h.gen, by
      intro i x hx
      have : (headsN D 2).over i = some x := hx
      rw [h4] at this
      cases this⟩
/-- What Open hands back. -/
def OpenOut (w : World) (d L M : Nat) (R : Int × Option LogS × DiskS) (e : Ending) (w' : World) : Prop :=
  Tch [d, L, M] w w' ∧ DiskAt w' d L M R.2.2 ∧ ((R.2.1 = none ∧ e = .returned (.tuple #[.pointer none, .int .i64 R.1])) ∨
    ∃ S g V, R.2.1 = some S ∧ e = .returned (.tuple #[.pointer (some ⟨g, 0, none⟩), .int .i64 0]) ∧ R.1 = 0 ∧ LogAt w' g d L M V S ∧ S.Ok ∧ w.heap.size ≤ g ∧ w.heap.size ≤ V)

set_option maxRecDepth 20000 in
set_option maxHeartbeats 2000000 in
theorem open_any {w : World} {d L M : Nat} {D : DiskS} (h : DiskAt w d L M D) :
    Calls Tryz.prog 14 #[.pointer (some ⟨d, 0, none⟩)] w fun e w' => OpenOut w d L M (LogS.opens D) e w' := by
  have H := Lib.hid h
  have hdw := lt_of_heap h.hd
  have hLw := lt_of_heap h.hL
  have hMw := h.hM.lt
  clear h
  go_enter Tryz.func14, Tryz.ntmps14
  go_upto_region 4 with ((with_reducible apply wc_makeMap kInt); intro hm; have HMP := Lib.hid hm; clear hm; go_frame)
  obtain ⟨V, hV⟩ : ∃ V, w.heap.size = V := ⟨_, rfl⟩
  obtain ⟨g, hg⟩ : ∃ g, V + 1 = g := ⟨_, rfl⟩
  obtain ⟨W, hW⟩ : ∃ W, (w.alloc (.map #[] 0)).alloc (.cells #[.pointer (some ⟨d, 0, none⟩), .int .i64 0, .int .i64 0, .int .u64 0, .int .i64 0, .int .u64 0, .map (some w.heap.size), .bool false] 91) = W := ⟨_, rfl⟩
  have tW : Tch [] w W := by rw [← hW]; exact ((Tch.refl _ _).alloc _).alloc _
  have bg : W.heap[g]? = some (.cells #[.pointer (some ⟨d, 0, none⟩), .int .i64 0, .int .i64 0, .int .u64 0, .int .i64 0, .int .u64 0, .map (some V), .bool false] 91) := by
    rw [← hW, ← hg, ← hV, heap_alloc, if_pos (by simp)]
  have hm1 : MapAt kInt W V (fun _ => none) := by rw [← hW, ← hV]; exact HMP.out.touch ((Tch.refl [] _).alloc _) (by simp)
  have hl0 : LogAt W g d L M V (LogS.blank D) := ⟨bg, H.out.touch tW (by simp) (by simp) (by simp), hm1, by omega, by omega, by omega, by omega, by omega, by omega, by omega⟩
  rw [hW, hV, hg]
  have HL0 := Lib.hid hl0
  have TW := Lib.hid tW
  have HV := Lib.hid hV
  clear hW tW bg hm1 hl0 HMP
  go_wp2_with fail
  go_loopg [17] 2 (fun q i wr => ∃ k, OnAt 2 i q k ∧ LogAt wr g d L M V (headsN D k) ∧ Tch [g] W wr ∧ (1 ≤ k → (D.read 0).2 = 0) ∧ (2 ≤ k → (D.read 1).2 = 0))
  case atStart => exact ⟨0, ⟨by omega, rfl, rfl⟩, HL0.out, Tch.refl _ _, by omega, by omega⟩
  case round =>
    obtain ⟨k, ⟨hk, rfl, rfl⟩, hl, ht, hr0, hr1⟩ := hrel
    have hkd := (headsN_keep D k).1
    have hDk : DiskAt wr d L M D := by have := hl.hD; rw [hkd] at this; exact this
    have LK := Lib.hid hl
    have TK := Lib.hid ht
    have DK := Lib.hid hDk
    have R0 := Lib.hid hr0
    have R1 := Lib.hid hr1
    clear hl ht hr0 hr1 hkd hDk
    by_cases hk2 : k < 2
    · obtain ⟨s, hs⟩ : ∃ s, (D.read (k : Nat)).1 = s := ⟨_, rfl⟩
      obtain ⟨er, her⟩ : ∃ er, (D.read (k : Nat)).2 = er := ⟨_, rfl⟩
      have RD : Hid (Calls Tryz.prog 46 #[.pointer (some ⟨d, 0, none⟩), .int .i64 k] wr fun e w' => e = .returned (.tuple #[.agg (secA s), .int .i64 er]) ∧ Tch [] wr w') := by
        rw [← hs, ← her]; exact read_any DK.out (k : Nat)
      by_cases hz : er = 0
      · subst hz
        have HS := Lib.hid hs
        have HER := Lib.hid her
        clear hs her
        go_upto_region 10 with (first | (go_at_call 46; refine RD.out.mono ?_; rintro e w2 ⟨rfl, q1⟩; have T2 := Lib.hid q1; clear q1) | ((with_reducible refine wc_alloc_arr secT ?_); go_frame; (try simp only [World.size_alloc])) | ((with_reducible apply wc_store_new secT); exact rfl; exact rfl; go_frame))
        obtain ⟨w3, hw3⟩ : ∃ w3, w2.alloc (.cells (secA s) 26) = w3 := ⟨_, rfl⟩
        have t3 : Tch [] wr w3 := by rw [← hw3]; exact T2.out.alloc _
        have b3 : w3.heap[w2.heap.size]? = some (.cells (secA s) 26) := by rw [← hw3]; exact heap_alloc_new _ _
        rw [hw3]
        have B3 := Lib.hid b3
        have CH : Hid (Calls Tryz.prog 47 #[.pointer (some ⟨g, 0, none⟩), .int .i64 k, .agg (secA s)] w3 fun e w' => e = .returned (.tuple #[]) ∧ LogAt w' g d L M V (headsN D (k + 1)) ∧ Tch [g] wr w') := by
          rw [headsN_succ D k hk2, HS.out]
          exact (chooses_any (LK.out.touch t3 (by simp) (by simp) (by simp) (by simp) (by simp)) k hk2 s).mono (by rintro e w' ⟨q1, q2, q3⟩; exact ⟨q1, q2, (t3.mono (by simp)).trans q3⟩)
        clear hw3 t3 b3
        go_wp2_with (first | ((with_reducible apply wc_load_var secT B3.out); exact rfl; go_frame) | (go_at_call 47; refine CH.out.mono ?_; rintro e w4 ⟨rfl, q1, q2⟩; have Q1 := Lib.hid q1; have Q2 := Lib.hid q2; clear q1 q2))
        go_roundg (2 - (k + 1))
        case measure => omega
        case rel =>
          refine ⟨k + 1, ⟨by omega, by go_num, rfl⟩, Q1.out, TK.out.trans Q2.out, fun _ => ?_, fun h2 => ?_⟩
          · rcases Nat.eq_zero_or_pos k with h0 | h0
            · subst h0; exact HER.out
            · exact R0.out h0
          · have : k = 1 := by omega
            subst this
            exact HER.out
      · have hz' : (er != 0) = true := by simp [hz]
        have ho : LogS.opens D = (er, none, D) := by
          unfold LogS.opens
          rcases Nat.eq_zero_or_pos k with h0 | h0
          · subst h0
            rw [if_pos (by rw [show ((0 : Nat) : Int) = 0 from rfl] at her; rw [her]; exact hz)]
            rw [show ((0 : Nat) : Int) = 0 from rfl] at her
            rw [her]
          · have h1 : k = 1 := by omega
            subst h1
            rw [show ((1 : Nat) : Int) = 1 from rfl] at her
            rw [if_neg (by rw [R0.out (by omega)]; simp), if_pos (by rw [her]; exact hz), her]
        have HO := Lib.hid ho
        clear hs her ho
        go_wp2_with (first | (go_at_call 46; refine RD.out.mono ?_; rintro e w2 ⟨rfl, q1⟩; have T2 := Lib.hid q1; clear q1) | ((with_reducible refine wc_alloc_arr secT ?_); go_frame; (try simp only [World.size_alloc])) | ((with_reducible apply wc_store_new secT); exact rfl; exact rfl; go_frame))
        go_ret2
        rw [HO.out]
        have t9 : Tch [] w (w2.alloc (.cells (secA s) 26)) := tch_own TW.out (TK.out.trans ((T2.out.alloc _).mono (by simp))) (by have := HV.out; simp; omega)
        exact ⟨t9.mono (by simp), H.out.touch t9 (by simp) (by simp) (by simp), .inl ⟨rfl, rfl⟩⟩
    · have hk' : k = 2 := by omega
      subst hk'
      have e0 := R0.out (by omega)
      have e1 := R1.out (by omega)
      have ho : LogS.opens D = if (LogS.heads D).gen = 0 then (80, none, D) else
          if ((LogS.heads D).runs (LogS.heads D).log).checkpoint.1 ≠ 0 then (((LogS.heads D).runs (LogS.heads D).log).checkpoint.1, none, ((LogS.heads D).runs (LogS.heads D).log).checkpoint.2.disk)
          else (0, some ((LogS.heads D).runs (LogS.heads D).log).checkpoint.2, ((LogS.heads D).runs (LogS.heads D).log).checkpoint.2.disk) := by
        unfold LogS.opens
        rw [if_neg (by rw [e0]; simp), if_neg (by rw [e1]; simp)]
      have hdead : D.dead = false := by
        cases hd : D.dead with
        | false => rfl
        | true =>
          exfalso
          unfold DiskS.read DiskS.may at e0
          rw [hd] at e0
          simp at e0
      have c3 := LK.out.cell 3 rfl
      have HO := Lib.hid ho
      have HDD := Lib.hid hdead
      have t2w : Tch [] w wr := tch_own TW.out TK.out (by have := HV.out; simp; omega)
      have T2W := Lib.hid t2w
      clear e0 e1 ho hdead t2w
      by_cases hgz : (LogS.heads D).gen = 0
      · rw [if_pos hgz] at HO
        have hgb : (((headsN D 2).gen : Int) == 0) = true := by simp; exact hgz
        clear hgz
        go_wp2_with fail
        go_ret2
        rw [HO.out]
        exact ⟨T2W.out.mono (by simp), DK.out, .inl ⟨rfl, rfl⟩⟩
      · rw [if_neg hgz] at HO
        have hgb : (((headsN D 2).gen : Int) == 0) = false := by simp; exact hgz
        have OK0 := Lib.hid (heads_ok D hgz)
        clear hgz
        go_wp2_with fail
        obtain ⟨N, hN⟩ : ∃ N, (LogS.heads D).log = N := ⟨_, rfl⟩
        have HN := Lib.hid hN
        obtain ⟨R, hR⟩ : ∃ R, (LogS.heads D).runs (LogS.heads D).log = R := ⟨_, rfl⟩
        rw [hR] at HO
        obtain ⟨okR, dR⟩ := LogS.runs_ok (LogS.heads D).log (LogS.heads D) OK0.out
        rw [hR] at okR dR
        have OKR := Lib.hid okR
        have HR := Lib.hid hR
        have hus0 := (headsN_keep D 2).2.1
        have H20 := Lib.hid (headsN_keep D 2)
        clear hN hR okR dR hgb c3
        go_loopg [8] N (fun q _ w' => ∃ S' n, q = S'.log - S'.used ∧ LogAt w' g d L M V S' ∧ S'.Ok ∧ S'.disk = D ∧ R = S'.runs n ∧ S'.log - S'.used ≤ n ∧ Tch [g, V] wr w')
        case atStart =>
          refine ⟨headsN D 2, N, ?_, LK.out, OK0.out, H20.out.1, ?_, ?_, Tch.refl _ _⟩
          · show N = (LogS.heads D).log - (headsN D 2).used; rw [H20.out.2.1, HN.out]; rfl
          · rw [← HR.out, HN.out]; rfl
          · show (LogS.heads D).log - _ ≤ _; rw [HN.out]; omega
        case round =>
          obtain ⟨S', n, rfl, hl, hok, hdk, hruns, hn, ht⟩ := hrel
          have RC := Lib.hid (record_any hl (RecOk.of hok (by rw [hdk]; exact HDD.out)))
          have LS := Lib.hid hl
          have OKS := Lib.hid hok
          have HDK := Lib.hid hdk
          have HRU := Lib.hid hruns
          have TS := Lib.hid ht
          clear hl hok hdk hruns ht
          cases hrec : S'.record with
          | none =>
            have RN := Lib.hid (RC.out.mono (R' := fun e w' => e = .returned (.tuple #[.bool false, .int .i64 0]) ∧ Tch [] wr w') (by
              rintro e w' (⟨_, h1, h2⟩ | ⟨ws, h0, _⟩)
              · exact ⟨h1, h2⟩
              · rw [hrec] at h0; cases h0))
            have hRS : R = S' := by rw [HRU.out, LogS.runs_stop n S' hrec]
            clear RC hrec
            obtain ⟨ec, hec⟩ : ∃ ec, S'.checkpoint.1 = ec := ⟨_, rfl⟩
            rw [hRS] at HO
            rw [hec] at HO
            have CK : Hid (∀ w5, LogAt w5 g d L M V S' → Calls Tryz.prog 29 #[.pointer (some ⟨g, 0, none⟩)] w5 fun e w' => e = .returned (.int .i64 ec) ∧ LogAt w' g d L M V S'.checkpoint.2 ∧ Tch [g, d, L, M, V] w5 w') := fun w5 h5 => by
              rw [← hec]; exact checkpoint_any h5 OKS.out
            have OKC := Lib.hid OKS.out.checkpoint
            clear hRS hec
            by_cases hz : ec = 0
            · subst hz
              rw [if_neg (by simp)] at HO
              go_wp2_with (first | (go_at_call 48; refine RN.out.mono ?_; rintro e w5 ⟨rfl, q1⟩; have T5 := Lib.hid q1; have L5 := Lib.hid (LS.out.touch q1 (by simp) (by simp) (by simp) (by simp) (by simp)); clear q1) | (go_at_call 29; refine (CK.out _ L5.out).mono ?_; rintro e w6 ⟨rfl, q1, q2⟩; have L6 := Lib.hid q1; have T6 := Lib.hid q2; clear q1 q2))
              go_ret2
              rw [HO.out]
              have hv := HV.out
              refine ⟨?_, L6.out.hD, .inr ⟨_, g, V, rfl, rfl, rfl, L6.out, OKC.out, by omega, by omega⟩⟩
              exact (((T2W.out.mono (S' := [g, V, d, L, M]) (by simp)).trans ((TS.out.mono (by simp)).trans ((T5.out.mono (by simp)).trans (T6.out.mono (by simp))))).drop (by intro x hx; simp at hx ⊢; omega))
            · have hz' : (ec != 0) = true := by simp [hz]
              rw [if_pos hz] at HO
              go_wp2_with (first | (go_at_call 48; refine RN.out.mono ?_; rintro e w5 ⟨rfl, q1⟩; have T5 := Lib.hid q1; have L5 := Lib.hid (LS.out.touch q1 (by simp) (by simp) (by simp) (by simp) (by simp)); clear q1) | (go_at_call 29; refine (CK.out _ L5.out).mono ?_; rintro e w6 ⟨rfl, q1, q2⟩; have L6 := Lib.hid q1; have T6 := Lib.hid q2; clear q1 q2))
              go_ret2
              rw [HO.out]
              have hv := HV.out
              refine ⟨?_, L6.out.hD, .inl ⟨rfl, rfl⟩⟩
              exact (((T2W.out.mono (S' := [g, V, d, L, M]) (by simp)).trans ((TS.out.mono (by simp)).trans ((T5.out.mono (by simp)).trans (T6.out.mono (by simp))))).drop (by intro x hx; simp at hx ⊢; omega))
          | some ws =>
            have RS := Lib.hid (RC.out.mono (R' := fun e w' => e = .returned (.tuple #[.bool true, .int .i64 0]) ∧ LogAt w' g d L M V (S'.took ws) ∧ Tch [g, V] wr w') (by
              rintro e w' (⟨h0, _⟩ | ⟨ws', h0, h1, h2, h3⟩)
              · rw [hrec] at h0; cases h0
              · rw [hrec] at h0; cases h0; exact ⟨h1, h2, h3⟩))
            obtain ⟨k1, k2, k3⟩ := LogS.record_some hrec
            have hn1 : ∃ n', n = n' + 1 := ⟨n - 1, by omega⟩
            obtain ⟨n', rfl⟩ := hn1
            have hru2 : R = (S'.took ws).runs n' := by rw [HRU.out, LogS.runs_succ, hrec]
            have HRU2 := Lib.hid hru2
            have K3 := Lib.hid k3
            clear RC hrec hru2 k3
            go_wp2_with (go_at_call 48; refine RS.out.mono ?_; rintro e w5 ⟨rfl, q1, q2⟩; have L5 := Lib.hid q1; have T5 := Lib.hid q2; clear q1 q2)
            go_roundg ((S'.took ws).log - (S'.took ws).used)
            case measure => show S'.log - (S'.used + ws.length + 2) < S'.log - S'.used; omega
            case rel => exact ⟨S'.took ws, n', rfl, L5.out, OKS.out.took k2 K3.out, HDK.out, HRU2.out, by show S'.log - (S'.used + ws.length + 2) ≤ n'; omega, TS.out.trans T5.out⟩
end Go.Proofs.YthbaipljlbddcaaGreat
/-
  Small laws, for any program: a region whose order is open, by an invariant over what was done, each step with its operands said.
-/
namespace Go.Cib
open Go Go.RowKit
theorem fullOf_eval {a0 : Act} {l : List Oper} {n : Nat} {vs : Nat → Value} (hB : invB l.toArray n = true) {t j : Nat} (ht : t < a0.tmps.size) (hj : headOf l.toArray n t = some j) : (fullOf a0 l n vs).eval (.tmp t) = vs j := by
  simp only [invB, Bool.and_eq_true, Bool.or_eq_true, decide_eq_true_eq] at hB
  obtain ⟨⟨⟨⟨_, hn⟩, _⟩, hhead⟩, _⟩ := hB
  have h := (putAll_agreeF (a0 := a0) (vs := vs) hhead (by simpa using hn)).tmps t ht
  rw [hj] at h
  have hl : (listedN l.toArray.size n).getD j false = true := by
    have := (headOf_some hj).1
    have hjl : j < l.length := by have := hn; simp at this; omega
    simp [listedN, hjl, this]
  simp only [hl, if_true] at h
  show (fullOf a0 l n vs).tmps.getD t undef = vs j
  rw [Array.getD_eq_getD_getElem?, h]
  rfl
theorem fullOf_old {a0 : Act} {l : List Oper} {n : Nat} {vs : Nat → Value} (hB : invB l.toArray n = true) {t : Nat} (ht : t < a0.tmps.size) (hj : headOf l.toArray n t = none) :
    (fullOf a0 l n vs).eval (.tmp t) = a0.tmps.getD t undef := by
  simp only [invB, Bool.and_eq_true, Bool.or_eq_true, decide_eq_true_eq] at hB
  obtain ⟨⟨⟨⟨_, hn⟩, _⟩, hhead⟩, _⟩ := hB
  have h := (putAll_agreeF (a0 := a0) (vs := vs) hhead (by simpa using hn)).tmps t ht
  rw [hj] at h
  show (fullOf a0 l n vs).tmps.getD t undef = _
  rw [Array.getD_eq_getD_getElem?, h]
  rfl
section
variable {P : Program} {Q : Exit → Act → World → Prop}
theorem wp_region_state {id : Nat} {a : Act} {w : World} {l : List Oper} (n : Nat) (Inv : Array Bool → (Nat → Value) → World → Prop) (hm : P.follows .mixedOrders = true) (hB : invB l.toArray n = true)
    (h0 : ∀ vs, Inv (Array.replicate l.toArray.size false) vs w.drew)
    (step : ∀ i o, i < n → l[i]? = some o → ∀ (listed : Array Bool) (vs : Nat → Value) (fu : Act) (w : World), Inv listed vs w → i < listed.size → listed.getD i false = false →
      (∀ t, t < a.tmps.size → headOf l.toArray n t = none → fu.eval (.tmp t) = a.tmps.getD t undef) →
      (∀ j t, t < a.tmps.size → Region.waitsFor .any l.toArray i j = true → headOf l.toArray n t = some j → listed.getD j false = true ∧ fu.eval (.tmp t) = vs j) →
      (Region.wanted o (yielded l.toArray fu.tmps) = true → StpR P (fun u w' => Inv (listed.setIfInBounds i true) (updV vs i u) w') ((execOp fu.eval o).run P w)) ∧
      (Region.wanted o (yielded l.toArray fu.tmps) = false → Inv (listed.setIfInBounds i true) (updV vs i undef) w))
    (tail : ∀ vs w', Inv (listedN l.toArray.size n) vs w' → wpList P l.toArray Q (l.drop n) (fullOf a l n vs) w') : (Code.region id l.toArray true).wp P Q a w :=
  wp_region_rel n Inv hm hB h0 (fun i o hi ho listed vs w hI hs hl hw => step i o hi ho listed vs (fullOf a l n vs) w hI hs hl (fun _ ht hh => fullOf_old hB ht hh) (fun j _ ht hw' hh => ⟨hw j hw', fullOf_eval hB ht hh⟩)) tail
end
/-- Values that are said; one variable that is made, and then written. -/
structure MadeOne (W : World) (val : Nat → Value) (ka ks : Nat) (zero full : Obj) (listed : Array Bool) (vs : Nat → Value) (w : World) : Prop where
  tch : Tch [] W w
  vals : ∀ j, j ≠ ka → j ≠ ks → listed.getD j false = true → vs j = val j
  ord : listed.getD ks false = true → listed.getD ka false = true
  made : listed.getD ka false = true → ∃ B, vs ka = .pointer (some ⟨B, 0, none⟩) ∧ W.heap.size ≤ B ∧ w.heap[B]? = some (if listed.getD ks false = true then full else zero)
theorem listed_set_ne {listed : Array Bool} {i j : Nat} (h : j ≠ i) : (listed.setIfInBounds i true).getD j false = listed.getD j false := by
  simp only [Array.getD_eq_getD_getElem?]
  rw [Array.getElem?_setIfInBounds_ne (Ne.symm h)]
theorem listed_set_eq {listed : Array Bool} {i : Nat} (h : i < listed.size) : (listed.setIfInBounds i true).getD i false = true := by simp [h]
namespace MadeOne
variable {W w w' : World} {val : Nat → Value} {ka ks : Nat} {zero full : Obj} {listed : Array Bool} {vs : Nat → Value}
theorem plain (h : MadeOne W val ka ks zero full listed vs w) (ht : Tch [] w w') {i : Nat} (hia : i ≠ ka) (his : i ≠ ks) : MadeOne W val ka ks zero full (listed.setIfInBounds i true) (updV vs i (val i)) w' := by
  refine ⟨h.tch.trans ht, fun j h1 h2 hl => ?_, fun hl => (by rw [listed_set_ne (Ne.symm his)] at hl; rw [listed_set_ne (Ne.symm hia)]; exact h.ord hl), fun hl => ?_⟩
  · unfold updV
    by_cases e : j = i
    · rw [if_pos e, e]
    · rw [if_neg e]; exact h.vals j h1 h2 (by rwa [listed_set_ne e] at hl)
  · rw [listed_set_ne (Ne.symm hia)] at hl
    obtain ⟨B, h1, h2, h3⟩ := h.made hl
    refine ⟨B, by unfold updV; rw [if_neg (Ne.symm hia)]; exact h1, h2, ?_⟩
    rw [listed_set_ne (Ne.symm his)]
    exact ht.heap h3 (by simp)
theorem alloc (h : MadeOne W val ka ks zero full listed vs w) (hak : ka ≠ ks) (hka : listed.getD ka false = false) (hsz : ka < listed.size) : MadeOne W val ka ks zero full (listed.setIfInBounds ka true) (updV vs ka (.pointer (some ⟨w.heap.size, 0, none⟩))) (w.alloc zero) := by
  have hks : listed.getD ks false = false := by
    cases hh : listed.getD ks false with
    | false => rfl
    | true => rw [h.ord hh] at hka; cases hka
  refine ⟨h.tch.alloc _, fun j h1 h2 hl => ?_, fun _ => listed_set_eq hsz, fun hl => ⟨w.heap.size, by simp [updV], h.tch.size, ?_⟩⟩
  · unfold updV
    rw [if_neg h1]; exact h.vals j h1 h2 (by rwa [listed_set_ne h1] at hl)
  · rw [listed_set_ne (Ne.symm hak), hks]
    exact heap_alloc_new _ _
theorem store (h : MadeOne W val ka ks zero full listed vs w) (hak : ka ≠ ks) (hs : ks < listed.size) (hla : listed.getD ka false = true) {B : Nat} (hv : vs ka = .pointer (some ⟨B, 0, none⟩)) (hB : W.heap.size ≤ B) (ht : Tch [B] w w') (hf : w'.heap[B]? = some full) (u : Value) :
    MadeOne W val ka ks zero full (listed.setIfInBounds ks true) (updV vs ks u) w' := by
  refine ⟨tch_own h.tch ht (by simpa using hB), fun j h1 h2 hl => ?_, fun _ => (by rw [listed_set_ne hak]; exact hla), fun _ => ⟨B, by unfold updV; rw [if_neg hak]; exact hv, hB, ?_⟩⟩
  · unfold updV
    rw [if_neg h2]; exact h.vals j h1 h2 (by rwa [listed_set_ne h2] at hl)
  · rw [listed_set_eq hs]; exact hf
end MadeOne
end Go.Cib
/-
  Small laws, for any program: a region whose order is open, in parts one behind the other: what is left of it from an operation on; parts that are forced, parts whose order is open.
-/
namespace Go.Cib
open Go Go.RowKit

/-- What is left of a region whose first n operations are done. -/
def RestAt (P : Program) (Q : Exit → Act → World → Prop) (l : List Oper) (n : Nat) (a : Act) (w : World) : Prop := wpAny P .any l.toArray Q (l.toArray.size - n) (listedN l.toArray.size n) a w
/-- From k on, g operations that are forced one behind the other. -/
def seqP (ops : Array Oper) : Nat → Nat → Array Bool → Bool
  | 0, _, _ => true
  | g + 1, k, listed => decide (Region.ready .any ops listed = [k]) && seqP ops g (k + 1) (listed.setIfInBounds k true)
def forcedB (ops : Array Oper) (n m : Nat) : Bool := decide (n ≤ m ∧ m ≤ ops.size) && seqP ops (m - n) n (listedN ops.size n)
def openB (ops : Array Oper) (n : Nat) : Bool := Region.noSelect ops && decide (n ≤ ops.size) && (decide (n = ops.size) || (Region.sinkB .any ops n && Region.chainB .any ops n)) && headB .any ops n
/-- A run that ends as it should, in X. -/
def endsIn (X : Act → World → Prop) : Exit → Act → World → Prop
  | .normal, a, w => X a w
  | _, _, _ => False
theorem letsOut_endsIn {X : Act → World → Prop} (h : LetsOut (endsIn X)) : False := by
  obtain ⟨a, w, h⟩ := h; exact h
theorem yielded_of {ops : Array Oper} {fu : Act} {g t : Nat} {b : Bool} (hd : (ops[g]?).bind (·.dst) = some t) (hv : fu.eval (.tmp t) = .bool b) : yielded ops fu.tmps g = some b := by
  have hv' : fu.tmps.getD t undef = .bool b := hv
  rw [Array.getD_eq_getD_getElem?] at hv'
  unfold yielded
  rw [hd]
  simp only [Option.bind_some]
  cases ht : fu.tmps[t]? with
  | none => rw [ht] at hv'; cases hv'
  | some v =>
    rw [ht] at hv'
    simp only [Option.getD_some] at hv'
    subst hv'
    rfl
/-- A step under a guard that lets it by; under one that does not. -/
theorem guard_by {o : Oper} {ops : Array Oper} {fu : Act} {g t : Nat} {b : Bool} {A C : Prop} (hg : o.guard = some (g, b)) (hd : (ops[g]?).bind (·.dst) = some t) (hv : fu.eval (.tmp t) = .bool b) (h : A) :
    (Region.wanted o (yielded ops fu.tmps) = true → A) ∧ (Region.wanted o (yielded ops fu.tmps) = false → C) := by
  have hw : Region.wanted o (yielded ops fu.tmps) = true := by
    unfold Region.wanted
    rw [hg]
    simp only [yielded_of hd hv, beq_self_eq_true]
  exact ⟨fun _ => h, fun hc => (by rw [hw] at hc; cases hc)⟩
theorem guard_past {o : Oper} {ops : Array Oper} {fu : Act} {g t : Nat} {b : Bool} {A C : Prop} (hg : o.guard = some (g, !b)) (hd : (ops[g]?).bind (·.dst) = some t) (hv : fu.eval (.tmp t) = .bool b) (h : C) :
    (Region.wanted o (yielded ops fu.tmps) = true → A) ∧ (Region.wanted o (yielded ops fu.tmps) = false → C) := by
  have hw : Region.wanted o (yielded ops fu.tmps) = false := by
    unfold Region.wanted
    rw [hg]
    simp only [yielded_of hd hv]
    cases b <;> rfl
  exact ⟨fun hc => (by rw [hw] at hc; cases hc), fun _ => h⟩
section
variable {P : Program} {Q : Exit → Act → World → Prop} {l : List Oper}
theorem upon_endsIn {o : Oper} {a : Act} {next : Act → World → Prop} {X : Act → World → Prop} {r : Result Next} (h : o.upon P a next (endsIn X) r) : o.upon P a next Q r := by
  cases r with
  | ok nx w =>
    cases nx with
    | enter f args =>
      rw [Oper.upon_enter] at h ⊢
      refine h.mono fun e w' h' => ?_
      cases e with
      | returned v => exact h'
      | panicked c => exact h'.elim
      | outgrown => exact (letsOut_endsIn h').elim
    | row r args => exact h
    | value v => exact h
    | skip => exact h
    | defer d => exact h
    | _ => exact h
  | halt x w =>
    cases x with
    | panic v => rw [Oper.upon_panic] at h; exact h.elim
    | _ => exact h
theorem wpOp_of_list {i : Nat} {o : Oper} {rest : List Oper} {a : Act} {w : World} {X : Act → World → Prop} {K : Act → World → Prop} (ho : l.toArray[i]? = some o) (h : wpList P l.toArray (endsIn X) (o :: rest) a w)
    (hK : ∀ a w, wpList P l.toArray (endsIn X) rest a w → K a w) : wpOp P l.toArray Q i K a w := by
  unfold wpOp
  simp only [ho]
  unfold wpList at h
  split at h
  · rename_i hw
    rw [if_pos hw]
    rcases h with h | ⟨_, h⟩
    · exact .inl (Oper.wp_mono hK (upon_endsIn h))
    · exact (letsOut_endsIn h).elim
  · rename_i hw
    rw [if_neg hw]
    exact hK _ _ h
/-- The region's start. -/
theorem rest_start {id : Nat} {a : Act} {w : World} (hm : P.follows .mixedOrders = true) (h : RestAt P Q l 0 a w.drew) : (Code.region id l.toArray true).wp P Q a w := by
  refine wp_region_any hm ?_
  unfold RestAt at h
  rw [← listedN_zero] at h
  exact h
/-- Operations that are forced one behind the other. -/
theorem rest_forced {n m : Nat} {a : Act} {w : World} (hB : forcedB l.toArray n m = true) (h : wpList P l.toArray (endsIn (RestAt P Q l m)) ((l.take m).drop n) a w) : RestAt P Q l n a w := by
  simp only [forcedB, Bool.and_eq_true, decide_eq_true_eq] at hB
  obtain ⟨⟨h1, h2⟩, hs⟩ := hB
  have key : ∀ (d n : Nat) (a : Act) (w : World), n + d = m → seqP l.toArray d n (listedN l.toArray.size n) = true → wpList P l.toArray (endsIn (RestAt P Q l m)) ((l.take m).drop n) a w → RestAt P Q l n a w := by
    intro d
    induction d with
    | zero =>
      intro n a w hn _ h
      have : n = m := by omega
      subst this
      rw [List.drop_of_length_le (by rw [List.length_take]; omega)] at h
      exact h
    | succ d ih =>
      intro n a w hn hs h
      simp only [seqP, Bool.and_eq_true, decide_eq_true_eq] at hs
      have hnl : n < l.toArray.size := by omega
      have hnl' : n < l.length := by simpa using hnl
      obtain ⟨o, ho⟩ : ∃ o, l[n]? = some o := ⟨_, List.getElem?_eq_getElem hnl'⟩
      have e1 : (l.take m).drop n = o :: (l.take m).drop (n + 1) := by
        rw [List.drop_eq_getElem_cons (by rw [List.length_take]; omega)]
        congr 1
        rw [List.getElem_take]
        exact (List.getElem?_eq_some_iff.1 ho).2
      rw [e1] at h
      unfold RestAt
      rw [show l.toArray.size - n = (l.toArray.size - (n + 1)) + 1 by omega]
      refine ⟨fun h1 => (by rw [hs.1] at h1; cases h1), fun i hi => ?_⟩
      rw [hs.1] at hi
      have hik : i = n := by simpa using hi
      subst hik
      refine wpOp_of_list (by simpa using ho) h fun a' w' h' => ?_
      rw [listedN_succ]
      exact ih (i + 1) a' w' (by omega) (by rw [← listedN_succ]; exact hs.2) h'
  exact key (m - n) n a w (by omega) hs h
/-- The region's end. -/
theorem rest_end {n : Nat} {a : Act} {w : World} (hB : Region.seqB .any l.toArray (l.toArray.size - n) n (listedN l.toArray.size n) = true) (h : wpList P l.toArray Q (l.drop n) a w) : RestAt P Q l n a w := by
  unfold RestAt
  have hdl : (l.drop n).length = l.toArray.size - n := by simp
  rw [← hdl]
  refine wpAny_of_seq (l.drop n) n _ _ w (fun j => by simp [List.getElem?_drop]) ?_ h
  rw [hdl]; exact hB

theorem headInv_from {n m : Nat} (hhead : headB .any l.toArray m = true) (hnm : n ≤ m) : HeadInv .any l.toArray m (listedN l.toArray.size n) := by
  refine ⟨by simp [listedN], fun j oj hj hl e he hb => ?_, fun t h1 h2 => ?_⟩
  · have hjs : j < l.length := by have := (Array.getElem?_eq_some_iff.1 hj).1; simpa using this
    have hjn : j < n := by simpa [listedN, hjs] using hl
    obtain ⟨o, ho, haft, _⟩ := headB_spec hhead (show j < m by omega)
    have : oj = o := by rw [ho] at hj; exact (Option.some.inj hj).symm
    subst this
    have hlt := haft e he hb
    have hes : e.on < l.length := by omega
    have : e.on < n := by omega
    simp [listedN, hes, this]
  · have h2' : t < l.length := by simpa using h2
    simp [listedN, h2']; omega
theorem any_rest {n : Nat} {Inv : Array Bool → (Nat → Value) → World → Prop} {a0 : Act} (hB : openB l.toArray n = true)
    (step : ∀ i o, i < n → l[i]? = some o → ∀ (listed : Array Bool) (vs : Nat → Value) (w : World), Inv listed vs w → i < listed.size → listed.getD i false = false → (∀ j, Region.waitsFor .any l.toArray i j = true → listed.getD j false = true) →
      (Region.wanted o (yielded l.toArray (fullOf a0 l n vs).tmps) = true → StpR P (fun u w' => Inv (listed.setIfInBounds i true) (updV vs i u) w') ((execOp (fullOf a0 l n vs).eval o).run P w)) ∧
      (Region.wanted o (yielded l.toArray (fullOf a0 l n vs).tmps) = false → Inv (listed.setIfInBounds i true) (updV vs i undef) w))
    (tail : ∀ vs w', Inv (listedN l.toArray.size n) vs w' → RestAt P Q l n (fullOf a0 l n vs) w') :
    ∀ (c : Nat) (listed : Array Bool) (vs : Nat → Value) (a : Act) (w : World), leftN n listed = c → HeadInv .any l.toArray n listed → Agree l.toArray n vs a0 listed a → Inv listed vs w →
      wpAny P .any l.toArray Q (c + (l.toArray.size - n)) listed a w := by
  simp only [openB, Bool.and_eq_true, Bool.or_eq_true, decide_eq_true_eq] at hB
  obtain ⟨⟨⟨hsel, hn⟩, hsink⟩, hhead⟩ := hB
  have hn' : n ≤ l.length := by simpa using hn
  have hall : ∀ j, j < n → (listedN l.toArray.size n).getD j false = true := by
    intro j hj
    have : j < l.length := by omega
    simp [listedN, this, hj]
  intro c
  induction c with
  | zero =>
    intro listed vs a w hc inv hag hw
    have h1 := leftN_zero hc
    have he := listed_eq inv.size h1 inv.tail
    subst he
    have hau := hag.unique (putAll_agreeF hhead hn')
    subst hau
    rw [Nat.zero_add]
    exact tail vs w hw
  | succ c ih =>
    intro listed vs a w hc inv hag hw
    obtain ⟨i0, g1, g2, g3⟩ := leftN_pos (n := n) (listed := listed) (by omega)
    have hin : i0 < listed.size := by rw [inv.size]; omega
    obtain ⟨o0, ho0, hon, _, _⟩ := headB_spec hhead g1
    have hready : i0 ∈ Region.ready .any l.toArray listed := mem_ready.2 ⟨getD_in hin g2, o0, ho0, fun e he hb => g3 _ (hon e he hb)⟩
    rw [show c + 1 + (l.toArray.size - n) = (c + (l.toArray.size - n)) + 1 by omega]
    refine ⟨fun h => (by rw [h] at hready; cases hready), fun i hi => ?_⟩
    have hilt : i < n := by
      rcases Nat.lt_or_ge i n with h | h
      · exact h
      · exfalso
        obtain ⟨hil, oi, hoi, _⟩ := mem_ready.1 hi
        have hisz : i < l.toArray.size := (Array.getElem?_eq_some_iff.1 hoi).1
        rcases hsink with hsz | ⟨hs, hch⟩
        · omega
        · exact tail_waits hs hch (by omega) inv _ i0 rfl g1 (getD_in hin g2) i h hi
    obtain ⟨hil, oi, hoi, hall'⟩ := mem_ready.1 hi
    obtain ⟨o, ho, _, hlk, hdst⟩ := headB_spec hhead hilt
    have hoo : oi = o := by rw [ho] at hoi; simpa using hoi.symm
    subst hoo
    have hil2 : i < listed.size := by rw [inv.size]; exact (Array.getElem?_eq_some_iff.1 ho).1
    have hwf : ∀ j, Region.waitsFor .any l.toArray i j = true → listed.getD j false = true := by
      intro j hj
      obtain ⟨oj, hoj, e, he, hb, hon'⟩ := Region.waitsFor_spec hj
      have : oj = oi := by rw [ho] at hoj; simpa using hoj.symm
      subst this
      have := hall' e he hb
      rw [hon'] at this
      exact this
    refine wpOp_stepR ho (Region.noSelect_spec hsel i oi · · ho) (fun t ht => frame_looks hag (putAll_agreeF hhead hn') hall fun j hj hd => hwf j (hlk t ht j hj hd)) (step i oi hilt (by simpa using ho) listed vs w hw hil2 (getD_both hil) hwf) (fun u w' hw' => ?_)
    have hag2 : Agree l.toArray n (updV vs i u) a0 listed a := hag.congr fun j hj => by
      have : j ≠ i := by rintro rfl; rw [getD_both hil] at hj; cases hj
      simp [updV, this]
    have hp := hag2.put ho hil2 hdst
    rw [show updV vs i u i = u by simp [updV]] at hp
    refine ih _ _ _ w' ?_ (inv.set hi hilt) hp hw'
    have := leftN_set (n := n) hilt hil2 (getD_both hil)
    omega

/-- What an operation of the region has left in a frame. -/
def ownOf (a : Act) (l : List Oper) (j : Nat) : Value := match (l[j]?).bind (·.dst) with | some t => a.tmps.getD t undef | none => undef
theorem putAll_own {a : Act} : ∀ (ops : List Oper) (vs : List Value), (∀ (k : Nat) o v t, ops[k]? = some o → vs[k]? = some v → o.dst = some t → v = a.tmps.getD t undef) → putAll a ops vs = a
  | [], _, _ => by unfold putAll; rfl
  | _ :: _, [], _ => by unfold putAll; rfl
  | o :: os, v :: vs, h => by
    have h0 := h 0 o v
    have e : a.put o.dst v = a := by
      cases hd : o.dst with
      | none => rfl
      | some t =>
        have hv := h0 t rfl rfl hd
        subst hv
        show ({ a with tmps := a.tmps.setIfInBounds t (a.tmps.getD t undef) } : Act) = a
        congr 1
        apply Array.ext_getElem?
        intro k
        rw [Array.getElem?_setIfInBounds]
        split
        · rename_i e; subst e
          split
          · rename_i hlt; simp [hlt]
          · rename_i hge; rw [Array.getElem?_eq_none (by omega)]
        · rfl
    rw [putAll, e]
    exact putAll_own os vs fun k o' v' t h1 h2 h3 => h (k + 1) o' v' t (by simpa using h1) (by simpa using h2) h3
/-- The frame when operations n .. m - 1 have given the values vs. -/
def fullFrom (a : Act) (l : List Oper) (n m : Nat) (vs : Nat → Value) : Act := putAll a ((l.take m).drop n) ((List.range' n (m - n)).map vs)
theorem fullOf_from {a : Act} {n m : Nat} {vs : Nat → Value} (hnm : n ≤ m) (hml : m ≤ l.length) (h : ∀ j, j < n → vs j = ownOf a l j) : fullOf a l m vs = fullFrom a l n m vs := by
  unfold fullOf fullFrom
  have e1 : List.range m = List.range n ++ List.range' n (m - n) := by
    obtain ⟨k, rfl⟩ := Nat.exists_eq_add_of_le hnm
    rw [List.range_eq_range', List.range_eq_range', Nat.add_sub_cancel_left]
    have := List.range'_append_1 (s := 0) (m := n) (n := k)
    rw [Nat.zero_add] at this
    exact this.symm
  have e2 : l.take m = l.take n ++ (l.take m).drop n := by
    have : l.take n = (l.take m).take n := by rw [List.take_take, Nat.min_eq_left hnm]
    rw [this, List.take_append_drop]
  rw [e1, List.map_append]
  conv => lhs; rw [e2]
  rw [putAll_append _ _ _ (by simp; omega)]
  rw [putAll_own (l.take n) ((List.range n).map vs) ?_]
  intro k o v t h1 h2 h3
  have hk : k < n := by
    rcases Nat.lt_or_ge k n with hk | hk
    · exact hk
    · rw [List.getElem?_eq_none (by simp; omega)] at h1; cases h1
  have hv : v = vs k := by
    rw [List.getElem?_map, List.getElem?_range hk] at h2
    exact (Option.some.inj h2).symm
  have ho : l[k]? = some o := by rw [List.getElem?_take, if_pos hk] at h1; exact h1
  rw [hv, h k hk]
  unfold ownOf
  rw [ho]
  simp [h3]

/-- Operations whose order is open: an invariant over what was done. -/
theorem rest_open {n m : Nat} {a : Act} {w : World} (Inv : Array Bool → (Nat → Value) → World → Prop) (hnm : n ≤ m) (hB : openB l.toArray m = true) (h0 : ∀ vs, Inv (listedN l.toArray.size n) vs w)
    (step : ∀ i o, n ≤ i → i < m → l[i]? = some o → ∀ (listed : Array Bool) (vs : Nat → Value) (fu : Act) (w : World), Inv listed vs w → i < listed.size → listed.getD i false = false →
      (∀ t, t < a.tmps.size → (headOf l.toArray m t).all (· < n) = true → fu.eval (.tmp t) = a.tmps.getD t undef) →
      (∀ j t, t < a.tmps.size → Region.waitsFor .any l.toArray i j = true → headOf l.toArray m t = some j → n ≤ j → listed.getD j false = true ∧ fu.eval (.tmp t) = vs j) →
      (Region.wanted o (yielded l.toArray fu.tmps) = true → StpR P (fun u w' => Inv (listed.setIfInBounds i true) (updV vs i u) w') ((execOp fu.eval o).run P w)) ∧
      (Region.wanted o (yielded l.toArray fu.tmps) = false → Inv (listed.setIfInBounds i true) (updV vs i undef) w))
    (tail : ∀ vs w', Inv (listedN l.toArray.size m) vs w' → RestAt P Q l m (fullFrom a l n m vs) w') : RestAt P Q l n a w := by
  have hB' := hB
  simp only [openB, Bool.and_eq_true, Bool.or_eq_true, decide_eq_true_eq] at hB'
  obtain ⟨⟨⟨hsel, hm⟩, hsink⟩, hhead⟩ := hB'
  have hm' : m ≤ l.length := by simpa using hm
  have hall : ∀ j, j < m → (listedN l.toArray.size m).getD j false = true := by
    intro j hj
    have : j < l.length := by omega
    simp [listedN, this, hj]
  have hag0 : Agree l.toArray m (ownOf a l) a (listedN l.toArray.size n) a := by
    refine ⟨rfl, rfl, fun t ht => ?_⟩
    have e : a.tmps[t]? = some (a.tmps.getD t undef) := by simp [ht]
    cases hh : headOf l.toArray m t with
    | none => exact e
    | some j =>
      have hd := (headOf_some hh).2
      have hd' : (l[j]?).bind (·.dst) = some t := by simpa using hd
      show a.tmps[t]? = some (if _ then ownOf a l j else _)
      unfold ownOf
      rw [hd']
      simp only [ite_self]
      exact e
  have hleft : leftN m (listedN l.toArray.size n) = m - n := by
    unfold leftN
    obtain ⟨k, rfl⟩ := Nat.exists_eq_add_of_le hnm
    rw [List.range_add, List.filter_append, List.length_append]
    rw [List.filter_eq_nil_iff.2 (fun j hj => by
      have hj' := List.mem_range.1 hj
      have : j < l.length := by omega
      simp [listedN, this, hj'])]
    rw [List.filter_eq_self.2 (fun j hj => by
      obtain ⟨x, hx, rfl⟩ := List.mem_map.1 hj
      have hx' := List.mem_range.1 hx
      have : n + x < l.length := by omega
      simp [listedN, this])]
    simp
  have hin0 : ∀ j, j < n → (listedN l.toArray.size n).getD j false = true := by
    intro j hj
    have : j < l.length := by omega
    simp [listedN, this, hj]
  have := any_rest (P := P) (Q := Q) (a0 := a) (Inv := fun listed vs w => (∀ j, j < n → listed.getD j false = true ∧ vs j = ownOf a l j) ∧ Inv listed vs w) hB ?_ ?_ (m - n) _ _ a w hleft (headInv_from hhead hnm) hag0 ⟨fun j hj => ⟨hin0 j hj, rfl⟩, h0 _⟩
  · unfold RestAt
    rwa [show m - n + (l.toArray.size - m) = l.toArray.size - n by omega] at this
  · rintro i o hi ho listed vs w' ⟨hown, hI⟩ hsz hun hw
    have hin : n ≤ i := by
      rcases Nat.lt_or_ge i n with h | h
      · rw [(hown i h).1] at hun; cases hun
      · exact h
    have hf := putAll_agreeF (a0 := a) (vs := vs) hhead hm'
    obtain ⟨s1, s2⟩ := step i o hin hi ho listed vs (fullOf a l m vs) w' hI hsz hun (fun t ht hh => by
      have h := hf.tmps t ht
      show (fullOf a l m vs).tmps.getD t undef = _
      rw [Array.getD_eq_getD_getElem?, h]
      cases hh2 : headOf l.toArray m t with
      | none => rfl
      | some j =>
        rw [hh2] at hh
        have hj : j < n := by simpa using hh
        have hjm := (headOf_some hh2).1
        have hd := (headOf_some hh2).2
        have hd' : (l[j]?).bind (·.dst) = some t := by simpa using hd
        simp only [hall j hjm, if_true, Option.getD_some]
        rw [(hown j hj).2]
        unfold ownOf
        rw [hd']) (fun j t ht hwf hh hj => ⟨hw j hwf, by
      have h := hf.tmps t ht
      rw [hh] at h
      have hjm := (headOf_some hh).1
      simp only [hall j hjm, if_true] at h
      show (fullOf a l m vs).tmps.getD t undef = vs j
      rw [Array.getD_eq_getD_getElem?, h]
      rfl⟩)
    have keep : ∀ u j, j < n → (listed.setIfInBounds i true).getD j false = true ∧ updV vs i u j = ownOf a l j := fun u j hj => by
      rw [getD_set_ne false (by omega : i ≠ j)]
      unfold updV
      rw [if_neg (by omega)]
      exact hown j hj
    refine ⟨fun hwn => ?_, fun hwn => ⟨keep _, s2 hwn⟩⟩
    have h3 := s1 hwn
    generalize (execOp (fullOf a l m vs).eval o).run P w' = r at h3
    cases r with
    | ok nx w2 =>
      cases nx <;> simp only [StpR] at h3 <;> try exact h3.elim
      case value u => exact ⟨keep _, h3⟩
      case skip => exact ⟨keep _, h3⟩
      case enter f args =>
        refine Calls.mono h3 ?_
        rintro e w3 ⟨u, rfl, h4⟩
        exact ⟨u, rfl, keep _, h4⟩
    | halt x w2 => exact h3.elim
  · rintro vs w' ⟨hown, hI⟩
    have := tail vs w' hI
    rwa [← fullOf_from hnm hm' fun j hj => (hown j hj).2] at this
/-- The same, each value known by a predicate that later operations keep. -/
theorem rest_vals {n m : Nat} {a : Act} {w : World} (C : World → Prop) (K : Nat → Value → World → Prop) (hnm : n ≤ m) (hB : openB l.toArray m = true) (h0 : C w)
    (mono : ∀ w w', C w → C w' → Tch [] w w' → ∀ i v, K i v w → K i v w')
    (step : ∀ i o, n ≤ i → i < m → l[i]? = some o → ∀ (fu : Act) (w' : World), C w' → (∀ t, t < a.tmps.size → (headOf l.toArray m t).all (· < n) = true → fu.eval (.tmp t) = a.tmps.getD t undef) →
      (∀ j t, t < a.tmps.size → Region.waitsFor .any l.toArray i j = true → headOf l.toArray m t = some j → n ≤ j → K j (fu.eval (.tmp t)) w') →
      (Region.wanted o (yielded l.toArray fu.tmps) = true → StpR P (fun u w'' => K i u w'' ∧ C w'' ∧ Tch [] w' w'') ((execOp fu.eval o).run P w')) ∧ (Region.wanted o (yielded l.toArray fu.tmps) = false → K i undef w'))
    (tail : ∀ vs w', C w' → (∀ j, n ≤ j → j < m → K j (vs j) w') → RestAt P Q l m (fullFrom a l n m vs) w') : RestAt P Q l n a w := by
  have hm : m ≤ l.length := by
    simp only [openB, Bool.and_eq_true, Bool.or_eq_true, decide_eq_true_eq] at hB
    simpa using hB.1.1.2
  refine rest_open (fun listed vs w => C w ∧ ∀ j, n ≤ j → j < m → listed.getD j false = true → K j (vs j) w) hnm hB (fun vs => ⟨h0, fun j h1 h2 h3 => ?_⟩) ?_ ?_
  · exfalso
    have : j < l.length := by omega
    simp [listedN, this] at h3
    omega
  · rintro i o hni him ho listed vs fu w' ⟨hC, hK⟩ hsz hun old new
    obtain ⟨s1, s2⟩ := step i o hni him ho fu w' hC old fun j t ht hw hh hj => by
      obtain ⟨h1, h2⟩ := new j t ht hw hh hj
      rw [h2]
      exact hK j hj (headOf_some hh).1 h1
    refine ⟨fun hw => (s1 hw).mono ?_, fun hw => ⟨hC, fun j h1 h2 hl => ?_⟩⟩
    · rintro u w'' ⟨k1, k2, k3⟩
      refine ⟨k2, fun j h1 h2 hl => ?_⟩
      unfold updV
      by_cases e : j = i
      · subst e; rw [if_pos rfl]; exact k1
      · rw [if_neg e]; exact mono _ _ hC k2 k3 _ _ (hK j h1 h2 (by rwa [getD_set_ne false (Ne.symm e)] at hl))
    · unfold updV
      by_cases e : j = i
      · subst e; rw [if_pos rfl]; exact s2 hw
      · rw [if_neg e]; exact hK j h1 h2 (by rwa [getD_set_ne false (Ne.symm e)] at hl)
  · rintro vs w' ⟨hC, hK⟩
    exact tail vs w' hC fun j h1 h2 => hK j h1 h2 (by
      have : j < l.length := by omega
      simp [listedN, this, h2])
end
end Go.Cib
/-
  What stands in a page: package wal's Read.
-/
namespace Go.Proofs.YthbaipljlbddcaaGreat
open Go.RowKit Go.Cib
theorem wc_lookup2 {P : Program} {ops : Array Oper} {rest : List Oper} {a : Act} {w : World} {Q : Exit → Act → World → Prop} {dst : Option Tmp} {ty : TypeId} {pos : String} {af : Array Edge} {κ : Type} [DecidableEq κ] {T K E : TypeId} {key : κ → Value} {M : Nat} {f : κ → Option Value} {m k : Operand} (hK : KeyT P K key) (hT : P.underlying T = some (.map K E)) {z : Value} (hz : (zeroValue E).run P w = .ok z w) (hC : MapAt key w M f)
    {kk : κ} (hm : a.eval m = .map (some M)) (hk : a.eval k = key kk) (h : wpList P ops Q rest (a.put dst (.tuple #[(f kk).getD z, .bool (f kk).isSome])) w) : wpList P ops Q (⟨dst, .lookup T m k true, ty, pos, af, none⟩ :: rest) a w :=
  wc_value rfl (exec_lookup rfl hK hT hz hm hk hC) h
def RVal (g d : Nat) (log p : Nat) (s : Sec) (er : Int) : Nat → Value
  | 0 => .pointer (some ⟨g, 0, none⟩)
  | 1 => .pointer (some ⟨g, 0, none⟩)
  | 2 => .pointer (some ⟨g, 0, none⟩)
  | 3 => .pointer (some ⟨d, 0, none⟩)
  | 4 => .pointer (some ⟨g, 0, none⟩)
  | 5 => .pointer (some ⟨g, 0, none⟩)
  | 6 => .pointer (some ⟨g, 1, none⟩)
  | 7 => .int .i64 log
  | 8 => .int .i64 (2 + log)
  | 9 => .int .i64 p
  | 10 => .int .i64 (2 + log + p)
  | 11 => .tuple #[.agg (secA s), .int .i64 er]
  | 12 => .tuple #[.agg (secA s), .int .i64 er]
  | 13 => .agg (secA s)
  | _ => .int .i64 er
theorem exec_alloc_sec {a : Act} {w : World} {dst : Option Tmp} {ty : TypeId} {pos : String} {af : Array Edge} {gd : Option (Nat × Bool)} : (execOp a.eval ⟨dst, .alloc 26, ty, pos, af, gd⟩).run Tryz.prog w = .ok (.value (.pointer (some ⟨w.heap.size, 0, none⟩))) (w.alloc (.cells (secA (Arr.zero : Sec)) 26)) := by
  obtain ⟨i, h1, _, _, h2⟩ := secT.info
  have h2' : i.zero = some (.agg (secA (Arr.zero : Sec))) := h2
  generalize secA (Arr.zero : Sec) = z at *
  exact exec_alloc h1 h2' rfl
theorem exec_store_sec {a : Act} {w : World} {dst : Option Tmp} {ty : TypeId} {pos : String} {af : Array Edge} {gd : Option (Nat × Bool)} {x y : Operand} {B : Nat} {s0 s : Sec} {e : TypeId} (hb : w.heap[B]? = some (.cells (secA s0) e)) (hx : a.eval x = .pointer (some ⟨B, 0, none⟩)) (hy : a.eval y = .agg (secA s)) :
    (execOp a.eval ⟨dst, .store 26 x y, ty, pos, af, gd⟩).run Tryz.prog w = .ok .skip (w.setRow B (secA s)) := by
  rw [exec_store_agg secT.agg rfl hx hy (by simp) (secA_one s) hb (by simp), spl_all]

set_option maxRecDepth 20000 in
set_option maxHeartbeats 4000000 in
theorem logRead_any {w : World} {g d L M V : Nat} {S : LogS} (h : LogAt w g d L M V S) (ok : S.Ok) (p : Int) :
    Calls Tryz.prog 20 #[.pointer (some ⟨g, 0, none⟩), .int .i64 p] w fun e w' => e = .returned (.tuple #[.agg (secA (S.read p).1.1), .int .i64 (S.read p).1.2]) ∧ LogAt w' g d L M V (S.read p).2 ∧ Tch [g] w w' := by
  obtain ⟨W, hW⟩ : ∃ W, w.alloc (.cells (secA (Arr.zero : Page)) 64) = W := ⟨_, rfl⟩
  have tW : Tch [] w W := by rw [← hW]; exact (Tch.refl _ _).alloc _
  have bW : W.heap[w.heap.size]? = some (.cells (secA (Arr.zero : Page)) 64) := by rw [← hW]; exact heap_alloc_new _ _
  have h1 := h.touch tW (by simp) (by simp) (by simp) (by simp) (by simp)
  have c7 := h1.cell 7 rfl
  have c2 := h1.cell 2 rfl
  have c6 := h1.cell 6 rfl
  have hgw := lt_of_heap h.hg
  have hdw := lt_of_heap h.hD.hd
  have hLw := lt_of_heap h.hD.hL
  have hMw := h.hD.hM.lt
  have hVw := h.hV.lt
  have HW := Lib.hid hW
  have TW := Lib.hid tW
  have BW := Lib.hid bW
  have H1 := Lib.hid h1
  have OKK := Lib.hid ok
  clear hW tW bW h1 h ok
  have FIN : Hid (∀ (wX : World) (S' : LogS), LogAt wX g d L M V S' → Tch [g] w wX → ∀ q : Page, LogAt (wX.setRow w.heap.size (secA q)) g d L M V S' ∧ Tch [g] w (wX.setRow w.heap.size (secA q))) := fun wX S' hX tX q => by
    have t : Tch [w.heap.size] wX (wX.setRow w.heap.size (secA q)) := (Tch.refl _ _).setRow (.inl (by simp)) _
    exact ⟨hX.touch t (by simp; omega) (by simp; omega) (by simp; omega) (by simp; omega) (by simp; omega), tX.setRow (.inr (Nat.le_refl _)) _⟩
  cases hd : S.dead with
  | true =>
    rw [hd] at c7
    have e : S.read p = ((Arr.zero, 6), S) := by unfold LogS.read; rw [if_pos hd]
    have E := Lib.hid e
    clear e hd
    go_enter Tryz.func20, Tryz.ntmps20
    go_upto_region 1 with ((with_reducible refine wc_alloc_arr pageT ?_); go_frame)
    rw [HW.out]
    go_wp2_with (first | ((with_reducible apply wc_build_arr pageT); exact rfl; go_frame) | ((with_reducible apply wc_store_var pageT BW.out); exact rfl; exact rfl; go_frame))
    refine bodyPost_ret (res_cell_tmp pageT.agg rfl _ rfl (setRow_heap _ _ _ _ _ _ BW.out) (size_secA _)) rfl ?_
    rw [E.out]
    exact ⟨rfl, FIN.out _ _ H1.out (TW.out.mono (by simp)) _⟩
  | false =>
    rw [hd] at c7
    by_cases hr : p < 0 ∨ (S.pages : Int) ≤ p
    · have e : S.read p = ((Arr.zero, 2), S) := by unfold LogS.read; rw [if_neg (by simp [hd]), if_pos hr]
      have E := Lib.hid e
      clear e hd
      by_cases hp0 : p < 0
      · clear hr
        go_enter Tryz.func20, Tryz.ntmps20
        go_upto_region 1 with ((with_reducible refine wc_alloc_arr pageT ?_); go_frame)
        rw [HW.out]
        go_wp2_with (first | ((with_reducible apply wc_build_arr pageT); exact rfl; go_frame) | ((with_reducible apply wc_store_var pageT BW.out); exact rfl; exact rfl; go_frame))
        refine bodyPost_ret (res_cell_tmp pageT.agg rfl _ rfl (setRow_heap _ _ _ _ _ _ BW.out) (size_secA _)) rfl ?_
        rw [E.out]
        exact ⟨rfl, FIN.out _ _ H1.out (TW.out.mono (by simp)) _⟩
      · have hpp : (S.pages : Int) ≤ p := hr.resolve_left hp0
        clear hr
        go_enter Tryz.func20, Tryz.ntmps20
        go_upto_region 1 with ((with_reducible refine wc_alloc_arr pageT ?_); go_frame)
        rw [HW.out]
        go_wp2_with (first | ((with_reducible apply wc_build_arr pageT); exact rfl; go_frame) | ((with_reducible apply wc_store_var pageT BW.out); exact rfl; exact rfl; go_frame))
        refine bodyPost_ret (res_cell_tmp pageT.agg rfl _ rfl (setRow_heap _ _ _ _ _ _ BW.out) (size_secA _)) rfl ?_
        rw [E.out]
        exact ⟨rfl, FIN.out _ _ H1.out (TW.out.mono (by simp)) _⟩
    obtain ⟨n, rfl⟩ := Int.eq_ofNat_of_zero_le (show 0 ≤ p by omega)
    have hnp : n < S.pages := by omega
    have hr1 : ¬ ((n : Int) < 0) := by omega
    have hr2 : ¬ ((S.pages : Int) ≤ n) := by omega
    cases hov : S.over (n : Int) with
    | some x =>
      have e : S.read n = ((x, 0), S) := by unfold LogS.read; rw [if_neg (by simp [hd]), if_neg hr, hov]
      have E := Lib.hid e
      have hsx : ∀ z, (((S.over (n : Int)).map fun x => Value.agg (secA x)).getD z) = .agg (secA x) := fun z => by rw [hov]; rfl
      have hss : ((S.over (n : Int)).map fun x => Value.agg (secA x)).isSome = true := by rw [hov]; rfl
      have HSX := Lib.hid hsx
      have HSS := Lib.hid hss
      have BA : Hid (∀ o, (W.alloc o).heap[w.heap.size]? = some (.cells (secA (Arr.zero : Page)) 64)) := fun o => ((Tch.refl [] W).alloc o).heap BW.out (by simp)
      have LA : Hid (∀ o, LogAt (W.alloc o) g d L M V S) := fun o => H1.out.touch ((Tch.refl [] W).alloc o) (by simp) (by simp) (by simp) (by simp) (by simp)
      clear e hd hov hsx hss hr
      go_enter Tryz.func20, Tryz.ntmps20
      go_upto_region 1 with ((with_reducible refine wc_alloc_arr pageT ?_); go_frame)
      rw [HW.out]
      go_wp2_with (first | ((with_reducible refine wc_lookup2 keyI uMapPage (z := .agg (secA (Arr.zero : Page))) (pageT.zero _) H1.out.hV (kk := (n : Int)) ?_ ?_ ?_); exact rfl; exact rfl; simp only [HSX.out, HSS.out]; go_frame) | ((with_reducible refine wc_alloc_arr pageT ?_); go_frame) | ((with_reducible apply wc_store_new pageT); exact rfl; exact rfl; go_frame) | ((with_reducible apply wc_load_new pageT); exact rfl; go_frame) | ((with_reducible apply wc_store_var pageT (BA.out _)); exact rfl; exact rfl; go_frame))
      refine bodyPost_ret (res_cell_tmp pageT.agg rfl _ rfl (setRow_heap _ _ _ _ _ _ (BA.out _)) (size_secA _)) rfl ?_
      rw [E.out]
      exact ⟨rfl, FIN.out _ _ (LA.out _) ((TW.out.alloc _).mono (by simp)) _⟩
    | none =>
      obtain ⟨s, hs⟩ : ∃ s, (S.disk.read (2 + S.log + n)).1 = s := ⟨_, rfl⟩
      obtain ⟨er, her⟩ : ∃ er, (S.disk.read (2 + S.log + n)).2 = er := ⟨_, rfl⟩
      have e : S.read n = if er ≠ 0 then ((Arr.zero, er), { S with dead := S.dead || er == 6 }) else (LogS.pageOf n s, S) := by
        unfold LogS.read; rw [if_neg (by simp [hd]), if_neg hr, hov]
        simp only [Int.toNat_natCast]
        rw [hs, her]
      have E := Lib.hid e
      have hsx : ∀ z, (((S.over (n : Int)).map fun x => Value.agg (secA x)).getD z) = z := fun z => by rw [hov]; rfl
      have hss : ((S.over (n : Int)).map fun x => Value.agg (secA x)).isSome = false := by rw [hov]; rfl
      have HSX := Lib.hid hsx
      have HSS := Lib.hid hss
      have hlog := OKK.out.log4
      have hpgs := OKK.out.pages2
      obtain ⟨W2, hW2⟩ : ∃ W2, W.alloc (.cells (secA (Arr.zero : Page)) 64) = W2 := ⟨_, rfl⟩
      have t2 : Tch [] W W2 := by rw [← hW2]; exact (Tch.refl _ _).alloc _
      have L2 := Lib.hid (H1.out.touch t2 (by simp) (by simp) (by simp) (by simp) (by simp))
      have B2 := Lib.hid (t2.heap BW.out (by simp))
      have T2 := Lib.hid (TW.out.trans t2)
      have HW2 := Lib.hid hW2
      have RD : Hid (∀ w', Tch [] W2 w' → Calls Tryz.prog 46 #[.pointer (some ⟨d, 0, none⟩), .int .i64 (2 + S.log + n)] w' fun e w'' => e = .returned (.tuple #[.agg (secA s), .int .i64 er]) ∧ Tch [] w' w'') := fun w' t' => by
        rw [← hs, ← her]; exact read_any (L2.out.hD.touch t' (by simp) (by simp) (by simp)) _
      clear e hov hsx hss hr hs her hW2 t2
      go_enter Tryz.func20, Tryz.ntmps20
      go_upto_region 1 with ((with_reducible refine wc_alloc_arr pageT ?_); go_frame)
      rw [HW.out]
      go_upto_region 10 with (first | ((with_reducible refine wc_lookup2 keyI uMapPage (z := .agg (secA (Arr.zero : Page))) (pageT.zero _) H1.out.hV (kk := (n : Int)) ?_ ?_ ?_); exact rfl; exact rfl; simp only [HSX.out, HSS.out]; go_frame) | ((with_reducible refine wc_alloc_arr pageT ?_); go_frame) | ((with_reducible apply wc_store_new pageT); exact rfl; exact rfl; go_frame))
      rw [HW2.out]
      have c0 := L2.out.cell 0 rfl
      have c1 := L2.out.cell 1 rfl
      have Y8 : IntKind.i64.wrap ((2 : Int) + S.log) = 2 + S.log := by simp [IntKind.wrap, IntKind.bits, IntKind.signed]; omega
      have Y10 : IntKind.i64.wrap ((2 : Int) + S.log + n) = 2 + S.log + n := by simp [IntKind.wrap, IntKind.bits, IntKind.signed]; omega
      refine wp_region_state 17 (MadeOne W2 (RVal g d S.log n s er) 15 16 (.cells (secA (Arr.zero : Sec)) 26) (.cells (secA s) 26)) (by kernel_rfl) (by kernel_rfl) (fun vs => ⟨(Tch.refl _ _).drew, fun j _ _ hl => (by rw [getD_replicate_false] at hl; cases hl), fun hl => (by rw [getD_replicate_false] at hl; cases hl), fun hl => (by rw [getD_replicate_false] at hl; cases hl)⟩) ?_ ?_
      · intro i o hi ho listed vs fu w' hI hsz hnl hold hdep
        have c0' := cell_old hI.tch c0
        have c1' := cell_old hI.tch c1
        have hi7 : i = 0 ∨ i = 1 ∨ i = 2 ∨ i = 3 ∨ i = 4 ∨ i = 5 ∨ i = 6 ∨ i = 7 ∨ i = 8 ∨ i = 9 ∨ i = 10 ∨ i = 11 ∨ i = 12 ∨ i = 13 ∨ i = 14 ∨ i = 15 ∨ i = 16 := by omega
        rcases hi7 with rfl | rfl | rfl | rfl | rfl | rfl | rfl | rfl | rfl | rfl | rfl | rfl | rfl | rfl | rfl | rfl | rfl
        all_goals (simp only [List.getElem?_cons_zero, List.getElem?_cons_succ, Option.some.injEq] at ho; subst ho)
        · refine step_plain rfl ?_
          have x0 : fu.tmps[0]?.getD undef = .pointer (some ⟨g, 0, none⟩) := ev_tmp (hold 0 (by show _ < 93; omega) (by kernel_rfl))
          go_simp
          exact hI.plain (Tch.refl _ _) (by decide) (by decide)
        · refine step_plain rfl ?_
          obtain ⟨l46, e46⟩ := hdep 0 46 (by show _ < 93; omega) (by kernel_rfl) (by kernel_rfl)
          have x46 : fu.tmps[46]?.getD undef = .pointer (some ⟨g, 0, none⟩) := ev_tmp (e46.trans (hI.vals 0 (by decide) (by decide) l46))
          go_simp
          exact hI.plain (Tch.refl _ _) (by decide) (by decide)
        · refine step_plain rfl ?_
          obtain ⟨l47, e47⟩ := hdep 1 47 (by show _ < 93; omega) (by kernel_rfl) (by kernel_rfl)
          have x47 : fu.tmps[47]?.getD undef = .pointer (some ⟨g, 0, none⟩) := ev_tmp (e47.trans (hI.vals 1 (by decide) (by decide) l47))
          go_simp
          exact hI.plain (Tch.refl _ _) (by decide) (by decide)
        · refine step_plain rfl ?_
          obtain ⟨l48, e48⟩ := hdep 2 48 (by show _ < 93; omega) (by kernel_rfl) (by kernel_rfl)
          have x48 : fu.tmps[48]?.getD undef = .pointer (some ⟨g, 0, none⟩) := ev_tmp (e48.trans (hI.vals 2 (by decide) (by decide) l48))
          go_simp
          exact hI.plain (Tch.refl _ _) (by decide) (by decide)
        · refine step_plain rfl ?_
          have x0 : fu.tmps[0]?.getD undef = .pointer (some ⟨g, 0, none⟩) := ev_tmp (hold 0 (by show _ < 93; omega) (by kernel_rfl))
          go_simp
          exact hI.plain (Tch.refl _ _) (by decide) (by decide)
        · refine step_plain rfl ?_
          obtain ⟨l50, e50⟩ := hdep 4 50 (by show _ < 93; omega) (by kernel_rfl) (by kernel_rfl)
          have x50 : fu.tmps[50]?.getD undef = .pointer (some ⟨g, 0, none⟩) := ev_tmp (e50.trans (hI.vals 4 (by decide) (by decide) l50))
          go_simp
          exact hI.plain (Tch.refl _ _) (by decide) (by decide)
        · refine step_plain rfl ?_
          obtain ⟨l51, e51⟩ := hdep 5 51 (by show _ < 93; omega) (by kernel_rfl) (by kernel_rfl)
          have x51 : fu.tmps[51]?.getD undef = .pointer (some ⟨g, 0, none⟩) := ev_tmp (e51.trans (hI.vals 5 (by decide) (by decide) l51))
          go_simp
          exact hI.plain (Tch.refl _ _) (by decide) (by decide)
        · refine step_plain rfl ?_
          obtain ⟨l52, e52⟩ := hdep 6 52 (by show _ < 93; omega) (by kernel_rfl) (by kernel_rfl)
          have x52 : fu.tmps[52]?.getD undef = .pointer (some ⟨g, 1, none⟩) := ev_tmp (e52.trans (hI.vals 6 (by decide) (by decide) l52))
          go_simp
          exact hI.plain (Tch.refl _ _) (by decide) (by decide)
        · refine step_plain rfl ?_
          obtain ⟨l53, e53⟩ := hdep 7 53 (by show _ < 93; omega) (by kernel_rfl) (by kernel_rfl)
          have x53 : fu.tmps[53]?.getD undef = .int .i64 S.log := ev_tmp (e53.trans (hI.vals 7 (by decide) (by decide) l53))
          go_simp
          exact hI.plain (Tch.refl _ _) (by decide) (by decide)
        · refine step_plain rfl ?_
          have x1 : fu.tmps[1]?.getD undef = .int .i64 n := ev_tmp (hold 1 (by show _ < 93; omega) (by kernel_rfl))
          go_simp
          exact hI.plain (Tch.refl _ _) (by decide) (by decide)
        · refine step_plain rfl ?_
          obtain ⟨l54, e54⟩ := hdep 8 54 (by show _ < 93; omega) (by kernel_rfl) (by kernel_rfl)
          have x54 : fu.tmps[54]?.getD undef = .int .i64 (2 + S.log) := ev_tmp (e54.trans (hI.vals 8 (by decide) (by decide) l54))
          obtain ⟨l55, e55⟩ := hdep 9 55 (by show _ < 93; omega) (by kernel_rfl) (by kernel_rfl)
          have x55 : fu.tmps[55]?.getD undef = .int .i64 n := ev_tmp (e55.trans (hI.vals 9 (by decide) (by decide) l55))
          go_simp
          exact hI.plain (Tch.refl _ _) (by decide) (by decide)
        · refine step_plain rfl ?_
          obtain ⟨l49, e49⟩ := hdep 3 49 (by show _ < 93; omega) (by kernel_rfl) (by kernel_rfl)
          have x49 : fu.tmps[49]?.getD undef = .pointer (some ⟨d, 0, none⟩) := ev_tmp (e49.trans (hI.vals 3 (by decide) (by decide) l49))
          obtain ⟨l56, e56⟩ := hdep 10 56 (by show _ < 93; omega) (by kernel_rfl) (by kernel_rfl)
          have x56 : fu.tmps[56]?.getD undef = .int .i64 (2 + S.log + n) := ev_tmp (e56.trans (hI.vals 10 (by decide) (by decide) l56))
          go_simp
          refine (RD.out _ hI.tch).mono ?_
          rintro e w5 ⟨rfl, q2⟩
          exact ⟨_, rfl, hI.plain q2 (by decide) (by decide)⟩
        · refine step_plain rfl ?_
          obtain ⟨l57, e57⟩ := hdep 11 57 (by show _ < 93; omega) (by kernel_rfl) (by kernel_rfl)
          have x57 : fu.tmps[57]?.getD undef = .tuple #[.agg (secA s), .int .i64 er] := ev_tmp (e57.trans (hI.vals 11 (by decide) (by decide) l57))
          go_simp
          exact hI.plain (Tch.refl _ _) (by decide) (by decide)
        · refine step_plain rfl ?_
          obtain ⟨l45, e45⟩ := hdep 12 45 (by show _ < 93; omega) (by kernel_rfl) (by kernel_rfl)
          have x45 : fu.tmps[45]?.getD undef = .tuple #[.agg (secA s), .int .i64 er] := ev_tmp (e45.trans (hI.vals 12 (by decide) (by decide) l45))
          go_simp
          exact hI.plain (Tch.refl _ _) (by decide) (by decide)
        · refine step_plain rfl ?_
          obtain ⟨l45, e45⟩ := hdep 12 45 (by show _ < 93; omega) (by kernel_rfl) (by kernel_rfl)
          have x45 : fu.tmps[45]?.getD undef = .tuple #[.agg (secA s), .int .i64 er] := ev_tmp (e45.trans (hI.vals 12 (by decide) (by decide) l45))
          go_simp
          exact hI.plain (Tch.refl _ _) (by decide) (by decide)
        · refine step_plain rfl ?_
          exact stpR_ok (exec_alloc_sec) (hI.alloc (by decide) hnl hsz)
        · refine step_plain rfl ?_
          obtain ⟨l8, e8⟩ := hdep 15 8 (by show _ < 93; omega) (by kernel_rfl) (by kernel_rfl)
          obtain ⟨l58, e58⟩ := hdep 13 58 (by show _ < 93; omega) (by kernel_rfl) (by kernel_rfl)
          have x58 : fu.eval (.tmp 58) = .agg (secA s) := e58.trans (hI.vals 13 (by decide) (by decide) l58)
          obtain ⟨B, hB1, hB2, hB3⟩ := hI.made l8
          rw [if_neg (by rw [hnl]; simp)] at hB3
          have hb3 : w'.heap[B]? = some (.cells (secA (Arr.zero : Sec)) 26) := hB3
          refine stpR_skip (exec_store_sec hb3 (e8.trans hB1) x58) ?_
          exact hI.store (by decide) hsz l8 hB1 hB2 ((Tch.refl _ _).setRow (.inl (by simp)) _) (setRow_heap _ _ _ _ _ _ hb3) _
      · intro vs w3 hI
        obtain ⟨B, hB1, hB2, hB3⟩ := hI.made (by kernel_rfl)
        have hB3' : w3.heap[B]? = some (.cells (secA s) 26) := by rw [if_pos (by kernel_rfl)] at hB3; exact hB3
        have x14 : vs 14 = .int .i64 er := hI.vals 14 (by decide) (by decide) (by kernel_rfl)
        have X14 := Lib.hid x14
        have X15 := Lib.hid hB1
        have S3 := Lib.hid hB3'
        have hW2s : W.heap.size ≤ W2.heap.size := by have h1 := T2.out.size; have h2 := HW2.out; have : W2.heap.size = W.heap.size + 1 := by rw [← h2]; simp
                                                     omega
        have T3 := Lib.hid (T2.out.trans hI.tch)
        have L3 := Lib.hid (L2.out.touch hI.tch (by simp) (by simp) (by simp) (by simp) (by simp))
        have B3 := Lib.hid (hI.tch.heap B2.out (by simp))
        clear hI hB1 hB3 hB3' x14 c0 c1
        unfold fullOf
        rw [show (List.range 17).map vs = [vs 0, vs 1, vs 2, vs 3, vs 4, vs 5, vs 6, vs 7, vs 8, vs 9, vs 10, vs 11, vs 12, vs 13, vs 14, vs 15, vs 16] from rfl, X14.out, X15.out]
        generalize vs 0 = v0
        generalize vs 1 = v1
        generalize vs 2 = v2
        generalize vs 3 = v3
        generalize vs 4 = v4
        generalize vs 5 = v5
        generalize vs 6 = v6
        generalize vs 7 = v7
        generalize vs 8 = v8
        generalize vs 9 = v9
        generalize vs 10 = v10
        generalize vs 11 = v11
        generalize vs 12 = v12
        generalize vs 13 = v13
        generalize vs 16 = v16
        clear X14 X15 vs
        simp only [List.take_succ_cons, List.take_zero, List.drop_succ_cons, List.drop_zero, putAll]
        go_frame
        by_cases hz : er = 0
        · subst hz
          rw [if_neg (by simp)] at E
          obtain ⟨f, hf⟩ : ∃ f, parse s = f := ⟨_, rfl⟩
          have hfi : f.idx < 4294967296 := by rw [← hf]; exact (parse_ok s).idx
          have NO : Hid (¬ (f.sector = s ∧ f.kind = 5 ∧ f.num = 0 ∧ f.idx = n) → LogS.pageOf n s = (Arr.zero, 81)) := fun hn => by unfold LogS.pageOf; rw [hf, if_neg hn]
          have YES : Hid ((f.sector = s ∧ f.kind = 5 ∧ f.num = 0 ∧ f.idx = n) → LogS.pageOf n s = (f.page, 0)) := fun hn => by unfold LogS.pageOf; rw [hf, if_pos hn]
          have HF := Lib.hid hf
          obtain ⟨ob, hob⟩ : ∃ ob, decide (f.sector = s) = ob := ⟨_, rfl⟩
          have HOB := Lib.hid hob
          have W3k := convU32 n (by omega)
          clear hf hob
          go_upto_region 14 with (first | ((with_reducible apply wc_load_var secT S3.out); exact rfl; go_frame) | (go_at_call 53; refine (wread_any s _).mono ?_; rintro e w4 ⟨rfl, q1⟩; rw [HF.out, HOB.out]; have T4 := Lib.hid q1; clear q1) | ((with_reducible refine wc_alloc_frame frameTT ?_); go_frame) | ((with_reducible apply wc_store_frame frameTT (heap_alloc_new w4 (.cells (frameA FrameV.zero) 105)) (g := f)); exact rfl; exact rfl; go_frame; rw [setRow_alloc_new]))
          obtain ⟨F, hF⟩ : ∃ F, w4.heap.size = F := ⟨_, rfl⟩
          obtain ⟨w6, hw6⟩ : ∃ w6, w4.alloc (.cells (frameA f) 105) = w6 := ⟨_, rfl⟩
          have b6 : w6.heap[F]? = some (.cells (frameA f) 105) := by rw [← hw6, ← hF]; exact heap_alloc_new _ _
          have t36 : Tch [] w3 w6 := by rw [← hw6]; exact T4.out.alloc _
          have T6 := Lib.hid (T3.out.trans t36)
          have L6 := Lib.hid (L3.out.touch t36 (by simp) (by simp) (by simp) (by simp) (by simp))
          have BR := Lib.hid (t36.heap B3.out (by simp))
          have BF := Lib.hid b6
          have k0 := (frame_cell b6).1
          have k2 := (frame_cell b6).2.2.1
          have k3 := (frame_cell b6).2.2.2
          rw [hF, hw6]
          clear hF hw6 b6 t36
          by_cases p1 : ob = true
          rotate_left
          · have E2 : Hid (LogS.pageOf n s = (Arr.zero, 81)) := NO.out (fun hh => p1 (by rw [← HOB.out, decide_eq_true hh.1]))
            rw [E2.out] at E
            have pb : ob = false := by simpa using p1
            subst pb
            clear p1
            go_wp2_with (first | ((with_reducible apply wc_build_arr pageT); exact rfl; go_frame) | ((with_reducible apply wc_store_var pageT BR.out); exact rfl; exact rfl; go_frame))
            refine bodyPost_ret (res_cell_tmp pageT.agg rfl _ rfl (setRow_heap _ _ _ _ _ _ BR.out) (size_secA _)) rfl ?_
            rw [E.out]
            exact ⟨rfl, FIN.out _ _ L6.out (T6.out.mono (by simp)) _⟩
          subst p1
          by_cases p2 : f.kind = 5
          rotate_left
          · have E2 : Hid (LogS.pageOf n s = (Arr.zero, 81)) := NO.out (fun hh => p2 hh.2.1)
            rw [E2.out] at E
            have pb : ((f.kind.toNat : Int) != 5) = true := by
              simp only [bne_iff_ne, ne_eq]
              intro e
              exact p2 (UInt8.toNat_inj.1 (by show f.kind.toNat = 5; omega))
            clear p2
            go_wp2_with (first | ((with_reducible apply wc_build_arr pageT); exact rfl; go_frame) | ((with_reducible apply wc_store_var pageT BR.out); exact rfl; exact rfl; go_frame))
            refine bodyPost_ret (res_cell_tmp pageT.agg rfl _ rfl (setRow_heap _ _ _ _ _ _ BR.out) (size_secA _)) rfl ?_
            rw [E.out]
            exact ⟨rfl, FIN.out _ _ L6.out (T6.out.mono (by simp)) _⟩
          have p2' : ((f.kind.toNat : Int) != 5) = false := by rw [p2]; rfl
          have P2 := Lib.hid p2
          clear p2
          by_cases p3 : f.num = 0
          rotate_left
          · have E2 : Hid (LogS.pageOf n s = (Arr.zero, 81)) := NO.out (fun hh => p3 hh.2.2.1)
            rw [E2.out] at E
            have pb : ((f.num : Int) != 0) = true := by simp; omega
            clear p3
            go_wp2_with (first | ((with_reducible apply wc_build_arr pageT); exact rfl; go_frame) | ((with_reducible apply wc_store_var pageT BR.out); exact rfl; exact rfl; go_frame))
            refine bodyPost_ret (res_cell_tmp pageT.agg rfl _ rfl (setRow_heap _ _ _ _ _ _ BR.out) (size_secA _)) rfl ?_
            rw [E.out]
            exact ⟨rfl, FIN.out _ _ L6.out (T6.out.mono (by simp)) _⟩
          have p3' : ((f.num : Int) != 0) = false := by simp; omega
          have P3 := Lib.hid p3
          clear p3
          by_cases p4 : f.idx = n
          rotate_left
          · have E2 : Hid (LogS.pageOf n s = (Arr.zero, 81)) := NO.out (fun hh => p4 hh.2.2.2)
            rw [E2.out] at E
            have pb : ((f.idx : Int) != n) = true := by simp; omega
            clear p4
            go_wp2_with (first | ((with_reducible apply wc_build_arr pageT); exact rfl; go_frame) | ((with_reducible apply wc_store_var pageT BR.out); exact rfl; exact rfl; go_frame))
            refine bodyPost_ret (res_cell_tmp pageT.agg rfl _ rfl (setRow_heap _ _ _ _ _ _ BR.out) (size_secA _)) rfl ?_
            rw [E.out]
            exact ⟨rfl, FIN.out _ _ L6.out (T6.out.mono (by simp)) _⟩
          have p4' : ((f.idx : Int) != n) = false := by simp; omega
          have E2 : Hid (LogS.pageOf n s = (f.page, 0)) := YES.out ⟨of_decide_eq_true HOB.out, P2.out, P3.out, p4⟩
          rw [E2.out] at E
          clear p4
          go_wp2_with (first | ((with_reducible apply wc_load_framepage pageT.agg BF.out); exact rfl; go_frame) | ((with_reducible apply wc_store_var pageT BR.out); exact rfl; exact rfl; go_frame))
          refine bodyPost_ret (res_cell_tmp pageT.agg rfl _ rfl (setRow_heap _ _ _ _ _ _ BR.out) (size_secA _)) rfl ?_
          rw [E.out]
          exact ⟨rfl, FIN.out _ _ L6.out (T6.out.mono (by simp)) _⟩
        · rw [if_pos hz] at E
          have hz' : (er != 0) = true := by simp [hz]
          go_wp2_with (first | ((with_reducible apply wc_build_arr pageT); exact rfl; go_frame) | (go_at_call 51; refine (told_any L3.out er).mono ?_; rintro e w5 ⟨rfl, q1, q2⟩; have L5 := Lib.hid q1; have T5 := Lib.hid ((T3.out.mono (by simp)).trans q2); have BR := Lib.hid (q2.heap B3.out (by simp; omega)); clear q1 q2) | ((with_reducible apply wc_store_var pageT BR.out); exact rfl; exact rfl; go_frame))
          refine bodyPost_ret (res_cell_tmp pageT.agg rfl _ rfl (setRow_heap _ _ _ _ _ _ BR.out) (size_secA _)) rfl ?_
          rw [E.out]
          exact ⟨rfl, FIN.out _ _ L5.out T5.out _⟩
end Go.Proofs.YthbaipljlbddcaaGreat
/-
  What is asked of a log that is not there; how many sectors are free.
-/
namespace Go.Proofs.YthbaipljlbddcaaGreat
open Go.RowKit Go.Cib
set_option maxRecDepth 20000 in
set_option maxHeartbeats 400000 in
theorem room_any {w : World} {g d L M V : Nat} {S : LogS} (h : LogAt w g d L M V S) (hl : S.log ≤ 4000) (hu : S.used ≤ S.log) :
    Calls Tryz.prog 36 #[.pointer (some ⟨g, 0, none⟩)] w fun x w' => x = .returned (.int .i64 (if S.dead = true then 0 else (S.log : Int) - S.used)) ∧ Tch [] w w' := by
  have c1 := h.cell 1 rfl
  have c4 := h.cell 4 rfl
  have c7 := h.cell 7 rfl
  clear h
  have hsub : wrap64 ((S.log : Int) - S.used) = S.log - S.used := by unfold wrap64; omega
  obtain ⟨D, log, pages, gen, used, records, over, dead⟩ := S
  simp only at c1 c4 c7 hl hu hsub
  cases dead with
  | true =>
    go_enter Tryz.func36, Tryz.ntmps36
    go_wp2
    go_ret
    exact ⟨rfl, Tch.refl _ _⟩
  | false =>
    go_enter Tryz.func36, Tryz.ntmps36
    go_upto_region 3 with fail
    (refine wp_region_walk (C := fun w' => ∃ n, w' = World.drewN w n) 10 (by kernel_rfl) (by kernel_rfl) ⟨1, rfl⟩ ?_; simp only [List.take_succ_cons, List.take_zero, List.drop_succ_cons, List.drop_zero]; (repeat (first | fail | go_big_quiet_step (fail))); refine wpQuiet_nil ?_; intro _ hw'; obtain ⟨nq, hw''⟩ := hw'; subst hw'')
    go_wp2_with fail
    go_ret
    exact ⟨rfl, tch_drewN w nq⟩
set_option maxRecDepth 20000 in
theorem pages_nil (w : World) : Calls Tryz.prog 15 #[.pointer none] w fun x w' => x = .returned (.int .i64 0) ∧ w = w' := by
  go_enter Tryz.func15, Tryz.ntmps15
  go_wp2
  go_ret
  exact ⟨rfl, rfl⟩
set_option maxRecDepth 20000 in
theorem room_nil (w : World) : Calls Tryz.prog 36 #[.pointer none] w fun x w' => x = .returned (.int .i64 0) ∧ w = w' := by
  go_enter Tryz.func36, Tryz.ntmps36
  go_wp2
  go_ret
  exact ⟨rfl, rfl⟩
set_option maxRecDepth 20000 in
theorem generation_nil (w : World) : Calls Tryz.prog 37 #[.pointer none] w fun x w' => x = .returned (.int .u64 0) ∧ w = w' := by
  go_enter Tryz.func37, Tryz.ntmps37
  go_wp2
  go_ret
  exact ⟨rfl, rfl⟩
set_option maxRecDepth 20000 in
theorem checkpoint_nil (w : World) : Calls Tryz.prog 29 #[.pointer none] w fun x w' => x = .returned (.int .i64 1) ∧ Tch [] w w' := by
  go_enter Tryz.func29, Tryz.ntmps29
  go_wp2
  go_ret
  exact ⟨rfl, (Tch.refl _ _).alloc _⟩
set_option maxRecDepth 20000 in
theorem commit_nil (w : World) (v : Value) : Calls Tryz.prog 17 #[.pointer none, v] w fun x w' => x = .returned (.int .i64 1) ∧ w = w' := by
  go_enter Tryz.func17, Tryz.ntmps17
  go_wp2
  go_ret
  exact ⟨rfl, rfl⟩
set_option maxRecDepth 20000 in
theorem open_nil (w : World) : Calls Tryz.prog 14 #[.pointer none] w fun x w' => x = .returned (.tuple #[.pointer none, .int .i64 1]) ∧ w = w' := by
  go_enter Tryz.func14, Tryz.ntmps14
  go_wp2
  go_ret2
  exact ⟨rfl, rfl⟩
set_option maxRecDepth 20000 in
theorem format_nil (w : World) (log : Int) : Calls Tryz.prog 13 #[.pointer none, .int .i64 log] w fun x w' => x = .returned (.int .i64 1) ∧ Tch [] w w' := by
  go_enter Tryz.func13, Tryz.ntmps13
  go_wp2
  go_ret
  exact ⟨rfl, ((Tch.refl _ _).alloc _).alloc _⟩
set_option maxRecDepth 20000 in
set_option maxHeartbeats 400000 in
theorem logRead_nil (w : World) (p : Int) : Calls Tryz.prog 20 #[.pointer none, .int .i64 p] w fun x w' => x = .returned (.tuple #[.agg (secA (Arr.zero : Page)), .int .i64 1]) ∧ Tch [] w w' := by
  obtain ⟨W, hW⟩ : ∃ W, w.alloc (.cells (secA (Arr.zero : Page)) 64) = W := ⟨_, rfl⟩
  have tW : Tch [] w W := by rw [← hW]; exact (Tch.refl _ _).alloc _
  have bW : W.heap[w.heap.size]? = some (.cells (secA (Arr.zero : Page)) 64) := by rw [← hW]; exact heap_alloc_new _ _
  have HW := Lib.hid hW
  have TW := Lib.hid tW
  have BW := Lib.hid bW
  clear hW tW bW
  go_enter Tryz.func20, Tryz.ntmps20
  go_upto_region 1 with ((with_reducible refine wc_alloc_arr pageT ?_); go_frame)
  rw [HW.out]
  go_wp2_with (first | ((with_reducible apply wc_build_arr pageT); exact rfl; go_frame) | ((with_reducible apply wc_store_var pageT BW.out); exact rfl; exact rfl; go_frame))
  refine bodyPost_ret (res_cell_tmp pageT.agg rfl _ rfl (setRow_heap _ _ _ _ _ _ BW.out) (size_secA _)) rfl ?_
  exact ⟨rfl, TW.out.setRow (.inr (Nat.le_refl _)) _⟩
end Go.Proofs.YthbaipljlbddcaaGreat
/-
  A page that begins with a text's bytes: package ciboriumref08's Text.
-/
namespace Go.Proofs.YthbaipljlbddcaaGreat
open Go.RowKit Go.Cib
theorem ptext_step (l : List UInt8) (k : Nat) (b : UInt8) (hk : k < 480) (hb : l[k]? = some b) : ((Arr.text (l.take k) : Page).l.set k b) = (Arr.text (l.take (k + 1)) : Page).l := by
  have hl := (List.getElem?_eq_some_iff.1 hb).1
  simp only [Arr.text]
  have e1 : (l.take k).length = k := by rw [List.length_take]; omega
  have e2 : (l.take (k + 1)).length = k + 1 := by rw [List.length_take]; omega
  rw [List.take_of_length_le (by omega : (l.take k).length ≤ 480), List.take_of_length_le (by omega : (l.take (k + 1)).length ≤ 480), e1, e2]
  rw [show List.take (k + 1) l = List.take k l ++ [b] by rw [List.take_add_one, hb]; rfl]
  rw [show 480 - k = (480 - (k + 1)) + 1 by omega, List.replicate_succ, List.set_append_right _ _ (by omega), e1, Nat.sub_self, List.set_cons_zero, List.append_assoc]
  rfl
theorem ptext_full (l : List UInt8) (k : Nat) (hk : 480 ≤ k ∨ l.length ≤ k) : (Arr.text (l.take k) : Page) = Arr.text l := by
  apply Arr.ext'
  simp only [Arr.text]
  rcases hk with hk | hk
  · rw [List.take_take, Nat.min_eq_left hk, List.length_take]
    congr 2
    omega
  · rw [List.take_of_length_le hk]

/-- The text's first k bytes are laid. -/
def PTextRel (w0 : World) (X : Nat) (s : ByteArray) (k : Nat) (wr : World) : Prop :=
  wr.heap[X]? = some (.cells (secA (Arr.text (s.data.toList.take k) : Page)) 64) ∧ Tch [X] w0 wr

set_option maxRecDepth 20000 in
set_option maxHeartbeats 400000 in
theorem ptext_any (s : ByteArray) (w : World) (_hs : s.size ≤ 9223372036854775807) :
    Calls Tryz.prog 16 #[.string s] w fun e w' => e = .returned (.agg (secA (Arr.text s.data.toList : Page))) ∧ Tch [] w w' := by
  obtain ⟨W1, hW1⟩ : ∃ W1, W1 = (w.alloc (.cells (secA (Arr.zero : Page)) 64)).alloc (.cells (secA (Arr.zero : Page)) 64) := ⟨_, rfl⟩
  have HW1 := Lib.hid hW1
  have hrel : PTextRel W1 (w.heap.size + 1) s 0 W1 := ⟨by
    rw [hW1, heap_alloc, if_pos (by simp)]
    rfl, Tch.refl _ _⟩
  have HREL := Lib.hid hrel
  clear hrel hW1
  go_enter Tryz.func16, Tryz.ntmps16
  go_wp2_with ((with_reducible refine wc_alloc_arr pageT ?_); go_frame; (try simp only [World.size_alloc]))
  rw [← HW1.out]
  go_loopg [4] s.size (fun k i wr => ∃ j, OnAt s.size i k j ∧ PTextRel W1 (w.heap.size + 1) s j wr)
  case atStart => exact ⟨0, ⟨Nat.zero_le _, rfl, rfl⟩, HREL.out⟩
  case round =>
    obtain ⟨j, ⟨hj, rfl, rfl⟩, hX, hT⟩ := hrel
    have HX := Lib.hid hX
    have HT := Lib.hid hT
    have hB : wr.heap[w.heap.size]? = some (.cells (secA (Arr.zero : Page)) 64) := by
      refine hT.heap ?_ (by simp)
      rw [HW1.out, heap_alloc, if_neg (by simp), heap_alloc, if_pos rfl]
    have HB := Lib.hid hB
    clear hT hB
    by_cases hj1 : j < s.size
    · by_cases hj2 : j < 480
      · have hc : wr.cell? ⟨w.heap.size + 1, j, none⟩ = some (bv ((Arr.text (s.data.toList.take j) : Page).l.getD j 0)) := by
          rw [cell_of_row wr _ j _ _ _ hX, secA, bytesA_get, List.getD_eq_getElem?_getD, List.getElem?_eq_getElem (by rw [Arr.h]; exact hj2)]
          rfl
        have hf := frozen_of_row wr (w.heap.size + 1) j _ _ hX
        clear hX
        go_wp2
        go_roundg (s.size - (j + 1))
        case measure => omega
        case rel =>
          have hb : s.data.toList[j]? = some s[j] := by
            rw [Array.getElem?_toList]
            exact Array.getElem?_eq_getElem hj1
          refine ⟨j + 1, ⟨by omega, by go_num, rfl⟩, ?_, HT.out.trans ((Tch.refl _ _).setCell (.inl (by simp)) _)⟩
          rw [heap_setCell_cells HX.out]
          have e := ptext_step s.data.toList j s[j] hj2 hb
          simp only [secA, ← e]
          rw [← bytesA_set]
          rfl
      · have hfull := ptext_full s.data.toList j (by omega)
        have HF := Lib.hid hfull
        clear hX hfull
        (go_wp2_with (first | ((with_reducible apply wc_load_var pageT HX.out); exact rfl; go_frame) | ((with_reducible apply wc_store_var pageT HB.out); exact rfl; exact rfl; go_frame)); refine bodyPost_ret (res_cell pageT.agg rfl _ rfl (setRow_heap _ _ _ _ _ _ HB.out) (size_secA _)) rfl ?_; refine ⟨by rw [HF.out], ?_⟩; have t1 : Tch [w.heap.size, w.heap.size + 1] w wr := Tch.trans (by rw [HW1.out]; exact ((Tch.refl _ _).alloc _).alloc _) (HT.out.mono (by simp)); exact (t1.setRow (.inl (by simp)) _).drop (by simp))
    · have hfull := ptext_full s.data.toList j (.inr (by rw [Array.length_toList]; show s.size ≤ j; omega))
      have HF := Lib.hid hfull
      clear hX hfull
      (go_wp2_with (first | ((with_reducible apply wc_load_var pageT HX.out); exact rfl; go_frame) | ((with_reducible apply wc_store_var pageT HB.out); exact rfl; exact rfl; go_frame)); refine bodyPost_ret (res_cell pageT.agg rfl _ rfl (setRow_heap _ _ _ _ _ _ HB.out) (size_secA _)) rfl ?_; refine ⟨by rw [HF.out], ?_⟩; have t1 : Tch [w.heap.size, w.heap.size + 1] w wr := Tch.trans (by rw [HW1.out]; exact ((Tch.refl _ _).alloc _).alloc _) (HT.out.mono (by simp)); exact (t1.setRow (.inl (by simp)) _).drop (by simp))
end Go.Proofs.YthbaipljlbddcaaGreat
/-
  The images of an operation: package ciboriumlaw08's images.
-/
namespace Go.Cib
open Go Go.RowKit
/-- Numbers and texts in memory (an operation's pages, its texts). -/
def TextsAt (w : World) (a : Option Addr) (l : List ByteArray) : Prop := ∀ (j : Nat) (s : ByteArray), l[j]? = some s → ∃ b o : Nat, a = some ⟨b, o, none⟩ ∧ w.cell? ⟨b, o + j, none⟩ = some (.string s)
theorem TextsAt.later {w w' : World} {a : Option Addr} {l : List ByteArray} (h : TextsAt w a l) (ht : Tch [] w w') : TextsAt w' a l := by
  intro j n hj
  obtain ⟨b, o, e, hc⟩ := h j n hj
  exact ⟨b, o, e, cell_old ht hc⟩
def PagesAt (w : World) (a : Option Addr) (l : List Int) : Prop := ∀ (j : Nat) (n : Int), l[j]? = some n → ∃ b o : Nat, a = some ⟨b, o, none⟩ ∧ w.cell? ⟨b, o + j, none⟩ = some (.int .i64 n)
theorem PagesAt.later {w w' : World} {a : Option Addr} {l : List Int} (h : PagesAt w a l) (ht : Tch [] w w') : PagesAt w' a l := by
  intro j n hj
  obtain ⟨b, o, e, hc⟩ := h j n hj
  exact ⟨b, o, e, cell_old ht hc⟩
/-- The images of an operation. -/
def imgOf (pages : List Int) (texts : List ByteArray) (j : Nat) : Int × Page := (pages.getD j 0, match texts[j]? with | some s => Arr.text s.data.toList | none => Arr.zero)
def imgsOf (pages : List Int) (texts : List ByteArray) : List (Int × Page) := (List.range (min pages.length 200)).map (imgOf pages texts)
end Go.Cib
namespace Go.Cib
open Go Go.RowKit
section
variable {P : Program} {T e : TypeId} {ops : Array Oper} {rest : List Oper} {a : Act} {w : World} {Q : Exit → Act → World → Prop} {dst : Option Tmp} {ty : TypeId} {pos : String} {af : Array Edge} {x y : Operand}
/-- A whole image out of a variable; a page into one. -/
theorem wc_load_imgvar (hT : AggT P T 481) {n : Int} {p : Page} {b : Nat} {fr : Nat × Nat} (hb : w.heap[b]? = some (.cells (imageA n p) e fr)) (hx : a.eval x = .pointer (some ⟨b, 0, none⟩))
    (h : wpList P ops Q rest (a.put dst (.agg (imageA n p))) w) : wpList P ops Q (⟨dst, .load T x, ty, pos, af, none⟩ :: rest) a w := by
  refine wc_value rfl ?_ h
  rw [exec_load_agg hT rfl hx hb (by rw [size_imageA]; omega)]
  have h2 := Array.extract_size (xs := imageA n p)
  rw [size_imageA] at h2
  rw [Nat.zero_add, h2]
theorem wc_store_pagevar (hT : AggT P T 480) {n : Int} {p q : Page} {b : Nat} (hb : w.heap[b]? = some (.cells (imageA n p) e)) (hx : a.eval x = .pointer (some ⟨b, 1, none⟩)) (hy : a.eval y = .agg (secA q))
    (h : wpList P ops Q rest (a.put dst undef) (w.setRow b (imageA n q))) : wpList P ops Q (⟨dst, .store T x y, ty, pos, af, none⟩ :: rest) a w := by
  refine wc_done rfl ?_ h
  rw [exec_store_agg hT rfl hx hy (size_secA q) (secA_one q) hb (by rw [size_imageA]; omega), spl_imagePage]
end
end Go.Cib
namespace Go.Proofs.YthbaipljlbddcaaGreat
open Go.RowKit Go.Cib
set_option maxRecDepth 20000 in
set_option maxHeartbeats 2000000 in
theorem images_any {w : World} (dd ii : Int) {pa ta : Option Addr} {pcap tcap : Nat} {pages : List Int} {texts : List ByteArray} (hp : PagesAt w pa pages) (ht : TextsAt w ta texts) (hts : ∀ s ∈ texts, s.size ≤ 9223372036854775807) (hpl : pages.length ≤ 9223372036854775807) :
    Calls Tryz.prog 27 #[.agg #[.int .i64 dd, .int .i64 ii, .slice pa pages.length pcap, .slice ta texts.length tcap]] w fun e w' => Tch [] w w' ∧ ∃ v, e = .returned v ∧ OwnImgs w' w.heap.size 68 v (imgsOf pages texts) := by
  obtain ⟨W, hW⟩ : ∃ W, w.alloc (.cells #[.int .i64 dd, .int .i64 ii, .slice pa pages.length pcap, .slice ta texts.length tcap] 56) = W := ⟨_, rfl⟩
  have tW : Tch [] w W := by rw [← hW]; exact (Tch.refl _ _).alloc _
  have bW : W.heap[w.heap.size]? = some (.cells #[.int .i64 dd, .int .i64 ii, .slice pa pages.length pcap, .slice ta texts.length tcap] 56) := by rw [← hW]; exact heap_alloc_new _ _
  have HW := Lib.hid hW
  have TW := Lib.hid tW
  have BW := Lib.hid bW
  have HP := Lib.hid (hp.later tW)
  have HTX := Lib.hid (ht.later tW)
  have HTS := Lib.hid hts
  obtain ⟨np, hnp⟩ : ∃ np, pages.length = np := ⟨_, rfl⟩
  obtain ⟨nt, hnt⟩ : ∃ nt, texts.length = nt := ⟨_, rfl⟩
  have HNP := Lib.hid hnp
  have HNT := Lib.hid hnt
  rw [hnp] at HW BW hpl ⊢
  rw [hnt] at HW BW ⊢
  clear hW tW bW hp ht hts hnp hnt
  obtain ⟨m, hm⟩ : ∃ m, min np 200 = m := ⟨_, rfl⟩
  have hm1 : m ≤ np ∧ m ≤ 200 := by omega
  go_enter Tryz.func27, Tryz.ntmps27
  go_upto_region 1 with ((with_reducible refine wc_box_agg ?_ ?_); exact rfl; go_frame)
  rw [HW.out]
  go_wp2_with fail
  go_loopg [3, 4] m (fun q v i wr => ∃ j, OnAt m i q j ∧ OwnImgs wr W.heap.size 68 v ((List.range j).map (imgOf pages texts)) ∧ Tch [] W wr)
  case atStart => exact ⟨0, ⟨Nat.zero_le _, rfl, rfl⟩, ownImgs_nil _ _ _, Tch.refl _ _⟩
  case round =>
    obtain ⟨j, ⟨hj, rfl, rfl⟩, hown, ht⟩ := hrel
    have bR := ht.heap BW.out (by simp)
    have c2 := cell_of_row wr w.heap.size 2 _ _ _ bR
    have c3 := cell_of_row wr w.heap.size 3 _ _ _ bR
    simp only [List.getElem?_toArray, List.getElem?_cons_zero, List.getElem?_cons_succ] at c2 c3
    have OW := Lib.hid hown
    have TR := Lib.hid ht
    clear hown ht bR
    by_cases hjm : j < m
    · have hjn : (j : Int) < np := by omega
      have hj2 : (j : Int) < 200 := by omega
      obtain ⟨n, hn⟩ : ∃ n, pages[j]? = some n := ⟨_, List.getElem?_eq_getElem (by rw [HNP.out]; omega)⟩
      obtain ⟨pb, po, rfl, hc⟩ := HP.out j n hn
      have hcn := cell_old TR.out hc
      have HN := Lib.hid hn
      have FI : Hid (fillI 0 Arr.zero [(0, .int .i64 n)] = some (imageA n Arr.zero)) := by show fillI 0 Arr.zero [(0, .int .i64 n)] = _; rw [fillI_num, fillI_nil]
      clear hn hc
      go_upto_region 6 with (first | ((with_reducible refine wc_build_img FI.out ?_ ?_); exact rfl; go_frame) | ((with_reducible refine wc_alloc_img imgZero ?_); go_frame) | ((with_reducible apply wc_store_img_new imgT); (first | exact rfl | (simp only [World.size_alloc]; exact rfl)); exact rfl; go_frame))
      obtain ⟨G, hG⟩ : ∃ G, wr.heap.size = G := ⟨_, rfl⟩
      obtain ⟨w5, hw5⟩ : ∃ w5, wr.alloc (.cells (imageA n Arr.zero) 68) = w5 := ⟨_, rfl⟩
      have b5 : w5.heap[G]? = some (.cells (imageA n Arr.zero) 68) := by rw [← hw5, ← hG]; exact heap_alloc_new _ _
      have t5 : Tch [] wr w5 := by rw [← hw5]; exact (Tch.refl _ _).alloc _
      have hGW : W.heap.size ≤ G := by rw [← hG]; exact TR.out.size
      have c35 := cell_old t5 c3
      have B5 := Lib.hid b5
      have T5 := Lib.hid t5
      have OW5 := Lib.hid (OW.out.kept t5 (by simp))
      have OLT : Hid (∀ k ∈ u3.ownBlock.toList, W.heap.size ≤ k ∧ k < G) := fun k hk => by rw [← hG]; exact OW.out.lt k hk
      have HGW := Lib.hid hG
      rw [hG, hw5]
      clear hG hw5 b5 t5 c2 c3 hcn
      by_cases hjt : j < nt
      · have hjt' : (j : Int) < nt := by omega
        obtain ⟨x, hx⟩ : ∃ x, texts[j]? = some x := ⟨_, List.getElem?_eq_getElem (by rw [HNT.out]; exact hjt)⟩
        obtain ⟨tb, to_, rfl, hct⟩ := HTX.out j x hx
        have hcx := cell_old (TR.out.trans T5.out) hct
        have hxs := HTS.out x (List.mem_of_getElem? hx)
        obtain ⟨pg, hpg⟩ : ∃ pg : Page, Arr.text x.data.toList = pg := ⟨_, rfl⟩
        have EI : Hid (imgOf pages texts j = (n, pg)) := by
          show imgOf pages texts j = _
          unfold imgOf
          rw [hx, List.getD_eq_getElem?_getD, HN.out]
          simp only [Option.getD_some]
          rw [hpg]
        have CT : Hid (Calls Tryz.prog 16 #[.string x] w5 fun e w' => e = .returned (.agg (secA pg)) ∧ Tch [] w5 w') := by rw [← hpg]; exact ptext_any x w5 hxs
        clear hx hct hpg
        go_upto_region 8 with (first | (go_at_call 16; refine CT.out.mono ?_; rintro e w6 ⟨rfl, q1⟩; have T6 := Lib.hid q1; have B6 := Lib.hid (q1.heap B5.out (by simp)); clear q1) | ((with_reducible apply wc_store_pagevar pageT.agg B6.out); exact rfl; exact rfl; go_frame))
        obtain ⟨w8, hw8⟩ : ∃ w8, w6.setRow G (imageA n pg) = w8 := ⟨_, rfl⟩
        have t68 : Tch [G] w6 w8 := by rw [← hw8]; exact (Tch.refl _ _).setRow (.inl (by simp)) _
        have b8 : w8.heap[G]? = some (.cells (imageA n pg) 68) := by rw [← hw8]; exact setRow_heap _ _ _ _ _ _ B6.out
        have T8 : Hid (Tch [] wr w8) := (T5.out.trans T6.out |> fun t => (t.mono (S' := [G]) (by simp)).trans t68 |>.drop (by have := B5.out; have hGwr := HGW.out; simp; omega))
        have B8 := Lib.hid b8
        have O7 : Hid (OwnImgs w8 W.heap.size 68 u3 ((List.range j).map (imgOf pages texts))) := (OW5.out.kept T6.out (by simp)).kept t68 (fun k hk hkG => by
          have := (OLT.out k (by rw [hk]; simp)).2
          simp at hkG
          omega)
        rw [hw8]
        clear hw8 t68 b8
        have V8 : Hid ((w8.alloc (.cells (imageA n pg) 68)).heap[w8.heap.size]? = some (.cells (imageA n pg) 68)) := heap_alloc_new _ _
        have O8 : Hid (OwnImgs (w8.alloc (.cells (imageA n pg) 68)) W.heap.size 68 u3 ((List.range j).map (imgOf pages texts))) := O7.out.kept ((Tch.refl [] _).alloc _) (by simp)
        have hs6 : W.heap.size ≤ w8.heap.size := (TR.out.trans T8.out).size
        go_wp2_with (first | ((with_reducible apply wc_load_imgvar imgT B8.out); exact rfl; go_frame) | ((with_reducible refine wc_slice_img imgInfo imgsS (n := n) (p := pg) ?_ ?_); exact rfl; go_frame) | (at_builtin; refine wc_append_img (x := .tmp 35) (y := .tmp 37) imgInfo imgsS (q := (n, pg)) O8.out (by simp; omega) (by simp; omega) rfl rfl rfl rfl V8.out ?_; intro v7 w7 ho7 ht7; go_frame; have O9 := Lib.hid ho7; have T9 := Lib.hid (tch_own ((TR.out.trans T8.out).alloc _) ht7 (fun k hk => (O8.out.lt k hk).1)); clear ho7 ht7))
        go_roundg (m - (j + 1))
        case measure => omega
        case rel =>
          refine ⟨j + 1, ⟨by omega, by go_num, rfl⟩, ?_, T9.out⟩
          rw [List.range_succ, List.map_append]
          have e : [j].map (imgOf pages texts) = [(n, pg)] := by
            show [imgOf pages texts j] = _
            rw [EI.out]
          rw [e]
          exact O9.out
      · have hjt' : (nt : Int) ≤ j := by omega
        have EI : Hid (imgOf pages texts j = (n, Arr.zero)) := by
          show imgOf pages texts j = _
          unfold imgOf
          rw [List.getElem?_eq_none (by rw [HNT.out]; omega), List.getD_eq_getElem?_getD, HN.out]
          rfl
        have V8 : Hid ((w5.alloc (.cells (imageA n Arr.zero) 68)).heap[w5.heap.size]? = some (.cells (imageA n Arr.zero) 68)) := heap_alloc_new _ _
        have O8 : Hid (OwnImgs (w5.alloc (.cells (imageA n Arr.zero) 68)) W.heap.size 68 u3 ((List.range j).map (imgOf pages texts))) := OW5.out.kept ((Tch.refl [] _).alloc _) (by simp)
        have hs6 : W.heap.size ≤ w5.heap.size := (TR.out.trans T5.out).size
        go_wp2_with (first | ((with_reducible apply wc_load_imgvar imgT B5.out); exact rfl; go_frame) | ((with_reducible refine wc_slice_img imgInfo imgsS (n := n) (p := Arr.zero) ?_ ?_); exact rfl; go_frame) | (at_builtin; refine wc_append_img (x := .tmp 35) (y := .tmp 37) imgInfo imgsS (q := (n, Arr.zero)) O8.out (by simp; omega) (by simp; omega) rfl rfl rfl rfl V8.out ?_; intro v7 w7 ho7 ht7; go_frame; have O9 := Lib.hid ho7; have T9 := Lib.hid (tch_own ((TR.out.trans T5.out).alloc _) ht7 (fun k hk => (O8.out.lt k hk).1)); clear ho7 ht7))
        go_roundg (m - (j + 1))
        case measure => omega
        case rel =>
          refine ⟨j + 1, ⟨by omega, by go_num, rfl⟩, ?_, T9.out⟩
          rw [List.range_succ, List.map_append]
          have e : [j].map (imgOf pages texts) = [(n, Arr.zero)] := by
            show [imgOf pages texts j] = _
            rw [EI.out]
          rw [e]
          exact O9.out
    · have hjm' : j = m := by omega
      subst hjm'
      have hx : ¬ ((j : Int) < np ∧ (j : Int) < 200) := by omega
      have HE : Hid ((List.range j).map (imgOf pages texts) = imgsOf pages texts) := by show _ = imgsOf pages texts; unfold imgsOf; rw [HNP.out, hm]
      by_cases hjn : (j : Int) < np
      · have hj2 : ¬ (j : Int) < 200 := by omega
        clear hx
        go_wp2_with fail
        go_ret
        refine ⟨TW.out.trans TR.out, _, rfl, ?_⟩
        rw [← HE.out]
        exact OW.out.base TW.out.size
      · clear hx
        go_wp2_with fail
        go_ret
        refine ⟨TW.out.trans TR.out, _, rfl, ?_⟩
        rw [← HE.out]
        exact OW.out.base TW.out.size
end Go.Proofs.YthbaipljlbddcaaGreat
/-
  The protocol of the log, plain: disks that are alive and unarmed; what a record's sectors say; no Go in it.
-/
namespace Go.Cib
open Go Go.RowKit
namespace DiskS
/-- Alive, and no failure is due. -/
structure Calm (D : DiskS) : Prop where
  dead : D.dead = false
  armed : D.armed = 0
  ok : D.Ok
theorem Calm.may {D : DiskS} (h : D.Calm) {i : Int} (h0 : 0 ≤ i) (h1 : i < D.lasts.length) : D.may i = 0 := by
  unfold DiskS.may; rw [if_neg (by simp [h.dead]), if_neg (by omega), if_neg (by omega)]
theorem goes_calm {D : DiskS} (h : D.armed = 0) : D.goes = D := by unfold goes; rw [if_pos h]
theorem Calm.write {D : DiskS} (h : D.Calm) {i : Int} (h0 : 0 ≤ i) (h1 : i < D.lasts.length) (s : Sec) : D.write i s = (0, D.put i s) := by
  unfold DiskS.write went
  rw [if_pos (h.may h0 h1), h.armed, goes_calm (show (D.put i s).armed = 0 from h.armed)]
  rfl
theorem Calm.put {D : DiskS} (h : D.Calm) {i : Int} (h0 : 0 ≤ i) (h1 : i < D.lasts.length) (s : Sec) : (D.put i s).Calm := ⟨h.dead, h.armed, h.ok.put (h.may h0 h1)⟩
theorem Calm.flush {D : DiskS} (h : D.Calm) : D.flush = (0, D.counted.flushed) := by
  unfold DiskS.flush went
  rw [if_neg (by simp [h.dead]), h.armed, goes_calm (show D.counted.armed = 0 from h.armed)]
  rfl
theorem Calm.flushed {D : DiskS} (h : D.Calm) : (D.counted.flushed).Calm := ⟨h.dead, h.armed, h.ok.counted.flushed⟩
theorem at_put (D : DiskS) (i : Int) (s : Sec) (j : Int) : (D.put i s).at_ j = if j = i then s else D.at_ j := by
  unfold at_ put
  by_cases e : j = i
  · simp [e]
  · simp [e]
theorem at_flushed (D : DiskS) {j : Int} (h0 : 0 ≤ j) (h1 : j < D.lasts.length) : (D.counted.flushed).at_ j = D.at_ j := by
  unfold at_ flushed counted
  simp only [Option.getD_none]
  have h2 : j.toNat < D.lasts.length := by omega
  rw [List.getD_eq_getElem?_getD, getElem?_lay, List.getElem?_eq_getElem h2]
  have e : ((j.toNat : Nat) : Int) = j := by omega
  simp only [Option.map_some, Option.getD_some, e]
  rw [List.getD_eq_getElem?_getD, List.getElem?_eq_getElem h2]
  rfl
/-- What is read where, behind so many acts. -/
def layA (f : Int → Sec) : List DAct → Int → Sec
  | [] => f
  | .write i s :: xs => layA (fun j => if j = i then s else f j) xs
  | .flush :: xs => layA f xs
theorem layA_append (f : Int → Sec) (xs ys : List DAct) : layA f (xs ++ ys) = layA (layA f xs) ys := by
  induction xs generalizing f with
  | nil => rfl
  | cons x xs ih => cases x <;> exact ih _
theorem layA_congr {f g : Int → Sec} {n : Int} (h : ∀ j, 0 ≤ j → j < n → f j = g j) (xs : List DAct) : ∀ j, 0 ≤ j → j < n → layA f xs j = layA g xs j := by
  induction xs generalizing f g with
  | nil => exact h
  | cons x xs ih =>
    cases x with
    | write i s =>
      refine ih ?_
      intro j h0 h1
      by_cases e : j = i
      · simp [e]
      · simp [e, h j h0 h1]
    | flush => exact ih h
/-- All acts are about sectors that are there. -/
def InA (n : Int) (xs : List DAct) : Prop := ∀ i s, DAct.write i s ∈ xs → 0 ≤ i ∧ i < n
theorem Calm.acts (xs : List DAct) : ∀ {D : DiskS}, D.Calm → InA D.lasts.length xs → (D.acts xs).1 = 0 ∧ (D.acts xs).2.Calm ∧ ∀ (j : Int), 0 ≤ j → j < D.lasts.length → (D.acts xs).2.at_ j = layA D.at_ xs j := by
  induction xs with
  | nil => exact fun h _ => ⟨rfl, h, fun _ _ _ => rfl⟩
  | cons x xs ih =>
    intro D h hin
    rw [acts_cons]
    have hin' : InA D.lasts.length xs := fun i s hm => hin i s (List.mem_cons_of_mem _ hm)
    cases x with
    | write i s =>
      obtain ⟨h0, h1⟩ := hin i s (by simp)
      have e : D.act (.write i s) = (0, D.put i s) := h.write h0 h1 s
      rw [e, if_pos rfl]
      obtain ⟨k1, k2, k3⟩ := ih (h.put h0 h1 s) hin'
      refine ⟨k1, k2, fun j g0 g1 => ?_⟩
      rw [k3 j g0 g1]
      exact layA_congr (n := D.lasts.length) (fun j' _ _ => at_put D i s j') xs j g0 g1
    | flush =>
      have e : D.act .flush = (0, D.counted.flushed) := h.flush
      have hl : (D.counted.flushed).lasts.length = D.lasts.length := length_lay _ _
      rw [e, if_pos rfl]
      obtain ⟨k1, k2, k3⟩ := ih h.flushed (by rw [hl]; exact hin')
      refine ⟨k1, k2, fun j g0 g1 => ?_⟩
      rw [k3 j g0 (by rw [hl]; exact g1)]
      exact layA_congr (n := D.lasts.length) (fun j' a b => at_flushed D a b) xs j g0 g1
/-- Behind a flush nothing waits. -/
theorem flush_waits {D : DiskS} (h : D.Calm) (xs : List DAct) (hin : InA D.lasts.length xs) : (D.acts (xs ++ [.flush])).2.waits = fun _ => none := by
  rw [acts_append]
  obtain ⟨k1, k2, _⟩ := h.acts xs hin
  rw [if_pos k1, acts_one]
  show (D.acts xs).2.flush.2.waits = _
  rw [k2.flush]
  rfl
theorem Calm.read {D : DiskS} (h : D.Calm) {i : Int} (h0 : 0 ≤ i) (h1 : i < D.lasts.length) : D.read i = (D.at_ i, 0) := by
  unfold DiskS.read; rw [if_pos (h.may h0 h1)]
end DiskS
namespace LogS
theorem layA_puts (S : LogS) : ∀ (fs : List FrameV) (pl : Nat) (f : Int → Sec) (j : Int), DiskS.layA f (S.putsA pl fs) j = match fs[(j - pl).toNat]? with | some x => if (pl : Int) ≤ j then (S.rec_ x).sector else f j | none => f j
  | [], pl, f, j => by simp [putsA, DiskS.layA]
  | x :: fs, pl, f, j => by
    rw [putsA, DiskS.layA, layA_puts S fs (pl + 1)]
    by_cases h : (pl : Int) ≤ j
    · by_cases e : j = pl
      · subst e
        have e1 : (((pl : Int) - ((pl + 1 : Nat) : Int)).toNat) = 0 := by omega
        have e2 : (((pl : Int) - (pl : Int)).toNat) = 0 := by omega
        rw [e1, e2]
        have h3 : ¬ (((pl + 1 : Nat) : Int) ≤ (pl : Int)) := by omega
        cases hf : fs[0]? with
        | none => simp
        | some y => simp only [h3, if_false]; simp
      · have e1 : (j - (pl : Int)).toNat = (j - ((pl + 1 : Nat) : Int)).toNat + 1 := by omega
        rw [e1, List.getElem?_cons_succ]
        have h3 : ((pl + 1 : Nat) : Int) ≤ j := by omega
        cases hf : fs[(j - ((pl + 1 : Nat) : Int)).toNat]? with
        | none => simp [e]
        | some y => simp only [h3, h, if_true]
    · have h3 : ¬ (((pl + 1 : Nat) : Int) ≤ j) := by omega
      have e : j ≠ pl := by omega
      have e2 : (j - (pl : Int)).toNat = 0 := by omega
      rw [e2, List.getElem?_cons_zero]
      simp only [h, if_false, e]
      cases hf : fs[(j - ((pl + 1 : Nat) : Int)).toNat]? with
      | none => rfl
      | some y => simp only [h3, if_false]
theorem inA_puts (S : LogS) (n : Int) : ∀ (fs : List FrameV) (pl : Nat), ((pl + fs.length : Nat) : Int) ≤ n → DiskS.InA n (S.putsA pl fs)
  | [], _, _ => fun i s h => by simp [putsA] at h
  | x :: fs, pl, hn => fun i s h => by
    rw [putsA] at h
    simp only [List.length_cons] at hn
    rcases List.mem_cons.1 h with h | h
    · cases h; exact ⟨by omega, by omega⟩
    · exact inA_puts S n fs (pl + 1) (by omega) i s h
/-- The frame at a place where one was written. -/
theorem atF_of {S : LogS} {place : Nat} {f : FrameV} (hp : place < S.log) (h : S.disk.at_ ((2 + place : Nat) : Int) = f.sector) (hf : f.Ok) : S.atF place = f := by
  unfold atF; rw [if_pos hp, h, parse_sector hf]
theorem atOk_of {S : LogS} {place : Nat} {f : FrameV} (hp : place < S.log) (h : S.disk.at_ ((2 + place : Nat) : Int) = (S.rec_ f).sector) (hf : (S.rec_ f).Ok) : S.atOk place f.kind = true := by
  unfold atOk
  rw [atF_of hp h hf, h, parse_sector hf]
  simp [hp, rec_]
/-- Where no frame lies there is none. -/
theorem atOk_none {S : LogS} {place : Nat} {kind : UInt8} (h : reads (S.disk.at_ ((2 + place : Nat) : Int)) = none) : S.atOk place kind = false := by
  unfold atOk
  have : decide ((parse (S.disk.at_ ((2 + place : Nat) : Int))).sector = S.disk.at_ ((2 + place : Nat) : Int)) = false := by
    unfold reads at h
    split at h
    · cases h
    · rename_i hn; exact decide_eq_false hn
  rw [this]
  simp
theorem record_none {S : LogS} (h : S.atOk S.used 2 = false) : S.record = none := by
  unfold record; rw [if_neg (by rw [h]; simp)]
/-- A record that was written whole is found. -/
theorem record_of {S : LogS} (ok : S.Ok) {ws : List (Nat × Page)} (h1 : 1 ≤ ws.length) (h2 : ws.length ≤ 120) (h3 : S.used + ws.length + 2 ≤ S.log) (hlt : ∀ q ∈ ws, q.1 < S.pages) (hnd : (ws.map (·.1)).Nodup)
    (a2 : S.disk.at_ ((2 + S.used : Nat) : Int) = (S.rec_ (frame2 (ws.map (·.1)))).sector) (a3 : ∀ k q, ws[k]? = some q → S.disk.at_ ((3 + S.used + k : Nat) : Int) = (S.rec_ (frame3 k q.2)).sector)
    (a4 : S.disk.at_ ((3 + S.used + ws.length : Nat) : Int) = (S.rec_ (frame4 ws.length)).sector) : S.record = some ws := by
  have hrec : S.records < 18446744073709551616 := by have := ok.records; have := ok.used; have := ok.log4; omega
  have ok2 : (S.rec_ (frame2 (ws.map (·.1)))).Ok := ⟨ok.gen, hrec, by show (ws.map (·.1)).length < _; rw [List.length_map]; omega⟩
  have ok3 : ∀ k x, k < 1000 → (S.rec_ (frame3 k x)).Ok := fun k x hk => ⟨ok.gen, hrec, by show k < _; omega⟩
  have ok4 : (S.rec_ (frame4 ws.length)).Ok := ⟨ok.gen, hrec, by show ws.length < _; omega⟩
  have f2 : S.atF S.used = S.rec_ (frame2 (ws.map (·.1))) := atF_of (by omega) a2 ok2
  have hidx : (S.atF S.used).idx = ws.length := by rw [f2]; show (ws.map (·.1)).length = _; rw [List.length_map]
  have hnum : ∀ k q, ws[k]? = some q → numAt (S.atF S.used).page k = q.1 := by
    intro k q hk
    rw [f2]
    have := hlt q (List.mem_of_getElem? hk)
    have := ok.pages2
    exact numAt_nums (l := ws.map (·.1)) (n := q.1) (by rw [List.length_map]; exact h2) (by rw [List.getElem?_map, hk]; rfl) (by omega)
  have hnames : names (S.atF S.used) = ws.map (·.1) := by
    unfold names
    rw [hidx]
    apply List.ext_getElem?
    intro k
    rw [List.getElem?_map, List.getElem?_map]
    by_cases hk : k < ws.length
    · rw [List.getElem?_range hk, List.getElem?_eq_getElem hk]
      simp only [Option.map_some]
      rw [hnum k _ (List.getElem?_eq_getElem hk)]
    · rw [List.getElem?_eq_none (by simpa using hk), List.getElem?_eq_none (by omega)]
      rfl
  have hF3 : ∀ k q, ws[k]? = some q → S.atF (S.used + 1 + k) = S.rec_ (frame3 k q.2) := fun k q hk => by
    have hkl := (List.getElem?_eq_some_iff.1 hk).1
    refine atF_of (by omega) ?_ (ok3 k q.2 (by omega))
    rw [show 2 + (S.used + 1 + k) = 3 + S.used + k by omega]; exact a3 k q hk
  have hF4 : S.atF (S.used + 1 + ws.length) = S.rec_ (frame4 ws.length) := by
    refine atF_of (by omega) ?_ ok4
    rw [show 2 + (S.used + 1 + ws.length) = 3 + S.used + ws.length by omega]; exact a4
  have k2 : S.atOk S.used 2 = true := by
    have e : (frame2 (ws.map (·.1))).kind = 2 := rfl
    rw [← e]
    exact atOk_of (by omega) a2 ok2
  have k4 : S.atOk (S.used + 1 + ws.length) 4 = true := by
    have e : (frame4 ws.length).kind = 4 := rfl
    rw [← e]
    refine atOk_of (by omega) ?_ ok4
    rw [show 2 + (S.used + 1 + ws.length) = 3 + S.used + ws.length by omega]; exact a4
  have k3 : ∀ k q, ws[k]? = some q → S.atOk (S.used + 1 + k) 3 = true := by
    intro k q hk
    have hkl := (List.getElem?_eq_some_iff.1 hk).1
    have e : (frame3 k q.2).kind = 3 := rfl
    rw [← e]
    refine atOk_of (by omega) ?_ (ok3 k _ (by omega))
    rw [show 2 + (S.used + 1 + k) = 3 + S.used + k by omega]; exact a3 k _ hk
  unfold record
  rw [hidx, if_pos]
  · congr 1
    unfold images
    rw [hidx]
    apply List.ext_getElem?
    intro k
    rw [List.getElem?_map]
    by_cases hk : k < ws.length
    · have hg := List.getElem?_eq_getElem hk
      rw [List.getElem?_range hk, hg]
      simp only [Option.map_some]
      rw [hnum k _ hg, hF3 k _ hg]
      rfl
    · rw [List.getElem?_eq_none (by simpa using hk), List.getElem?_eq_none (by omega)]
      rfl
  · refine ⟨k2, h1, h2, h3, ?_, ?_, k4, ?_, ?_⟩
    · unfold listed
      rw [hnames]
      have e1 : decide (∀ n ∈ ws.map (fun (q : Nat × Page) => q.1), n < S.pages) = true := decide_eq_true (fun n hn => by obtain ⟨q, hq, rfl⟩ := List.mem_map.1 hn; exact hlt q hq)
      have e5 : (S.rec_ (frame2 (ws.map (·.1)))).page = numsPage (ws.map (·.1)) := rfl
      rw [e1, decide_eq_true hnd, f2, e5]
      simp
    · intro k hk
      have hg := List.getElem?_eq_getElem hk
      have e6 : (S.rec_ (frame3 k (ws[k]).2)).idx = k := rfl
      exact ⟨k3 k _ hg, (congrArg FrameV.idx (hF3 k _ hg)).trans e6⟩
    · exact (congrArg FrameV.idx hF4).trans rfl
    · exact (congrArg FrameV.page hF4).trans rfl
end LogS
end Go.Cib
/-
  The log's works, plain: two pages that are written at once are there behind a failure of the power.
-/
namespace Go.Cib
open Go Go.RowKit
namespace LogS
/-- A head that counts is chosen. -/
theorem chooses_of {S : LogS} {i : Nat} {g log pages : Nat} (hg : S.gen < g) (hg2 : g < 18446744073709551616) (hi : g % 2 = i) (h1 : 3 ≤ log) (h2 : log ≤ 4000) (h3 : 1 ≤ pages) (h4 : pages ≤ 16384) (h5 : 2 + log + pages = S.disk.lasts.length) :
    S.chooses i (⟨1, g, 0, 0, numsPage [log, pages]⟩ : FrameV).sector = { S with gen := g, log := log, pages := pages } := by
  have hok : (⟨1, g, 0, 0, numsPage [log, pages]⟩ : FrameV).Ok := ⟨hg2, by show (0 : Nat) < _; omega, by show (0 : Nat) < _; omega⟩
  have n0 : numAt (numsPage [log, pages]) 0 = log := numAt_nums (l := [log, pages]) (by simp) rfl (by omega)
  have n1 : numAt (numsPage [log, pages]) 1 = pages := numAt_nums (l := [log, pages]) (by simp) rfl (by omega)
  unfold chooses
  rw [parse_sector hok]
  have hc : S.counts i ⟨1, g, 0, 0, numsPage [log, pages]⟩ := by
    exact ⟨rfl, rfl, rfl, hg, hi, by show 3 ≤ numAt (numsPage [log, pages]) 0; rw [n0]; exact h1, by show numAt (numsPage [log, pages]) 0 ≤ 4000; rw [n0]; exact h2, by show 1 ≤ numAt (numsPage [log, pages]) 1; rw [n1]; exact h3,
      by show numAt (numsPage [log, pages]) 1 ≤ 16384; rw [n1]; exact h4, by show 2 + numAt (numsPage [log, pages]) 0 + numAt (numsPage [log, pages]) 1 = _; rw [n0, n1]; exact h5, by show numsPage [log, pages] = numsPage [numAt (numsPage [log, pages]) 0, numAt (numsPage [log, pages]) 1]; rw [n0, n1]⟩
  rw [if_pos ⟨rfl, hc⟩]
  simp only [n0, n1]
theorem chooses_zero (S : LogS) (i : Nat) : S.chooses i (Arr.zero : Sec) = S := by
  have h := reads_zero
  unfold reads at h
  split at h
  · cases h
  · rename_i hn
    unfold chooses
    rw [if_neg (fun hh => hn hh.1)]
theorem headF_eq (S : LogS) : S.headF = ⟨1, S.gen, 0, 0, numsPage [S.log, S.pages]⟩ := rfl
/-- A home that is read. -/
theorem pageOf_home {S : LogS} {p : Nat} (x : Page) (hg : S.gen < 18446744073709551616) (hp : p < 16384) : pageOf p (S.homeF p x).sector = (x, 0) := by
  have hok : (S.homeF p x).Ok := ⟨hg, by show (0 : Nat) < _; omega, by show p < _; omega⟩
  unfold pageOf
  rw [parse_sector hok, if_pos ⟨rfl, rfl, rfl, rfl⟩]
  rfl
theorem read_home {S : LogS} (hd : S.dead = false) (hc : S.disk.Calm) {p : Nat} {x : Page} (hp : p < S.pages) (hs : 2 + S.log + S.pages = S.disk.lasts.length) (hov : S.over (p : Int) = none) {T : LogS} (hT : T.gen < 18446744073709551616) (hpl : p < 16384)
    (hat : S.disk.at_ ((2 + S.log + p : Nat) : Int) = (T.homeF p x).sector) : S.read (p : Int) = ((x, 0), S) := by
  have hr : S.disk.read (2 + S.log + p) = (S.disk.at_ ((2 + S.log + p : Nat) : Int), 0) := by
    have := hc.read (i := ((2 + S.log + p : Nat) : Int)) (by omega) (by omega)
    exact this
  unfold read
  rw [if_neg (by simp [hd]), if_neg (by omega), hov]
  simp only [hr, hat, Int.toNat_natCast]
  rw [if_neg (by simp), pageOf_home x hT hpl]
end LogS
namespace WorksP
def D0 : DiskS := DiskS.made 12
theorem calm0 : D0.Calm := ⟨rfl, rfl, DiskS.Ok.made (by decide) (by decide)⟩
def L0 : LogS := LogS.fresh D0 5
theorem in1 : DiskS.InA 12 (LogS.fmtA 5) := by
  intro i s h
  unfold LogS.fmtA at h
  rcases List.mem_append.1 h with h | h
  · obtain ⟨k, hk, e⟩ := List.mem_map.1 h
    cases e
    have := List.mem_range.1 hk
    omega
  · simp at h
theorem in2 : DiskS.InA 12 L0.fmtB := by
  intro i s h
  unfold LogS.fmtB at h
  rcases List.mem_append.1 h with h | h
  · obtain ⟨k, hk, e⟩ := List.mem_map.1 h
    cases e
    have : k < 5 := List.mem_range.1 hk
    show 0 ≤ ((2 + 5 + k : Nat) : Int) ∧ ((2 + 5 + k : Nat) : Int) < 12
    omega
  · simp at h
theorem in3 : DiskS.InA 12 L0.headAs := by
  intro i s h
  unfold LogS.headAs at h
  simp at h
  rw [h.1]
  exact ⟨by decide, by decide⟩
def D1 : DiskS := (LogS.format D0 5).2
def all1 : List DAct := LogS.fmtA 5 ++ L0.fmtB ++ L0.headAs
theorem fmt : (LogS.format D0 5).1 = 0 ∧ D1.Calm ∧ D1.lasts.length = 12 ∧ D1.waits = (fun _ => none) ∧ ∀ (j : Int), 0 ≤ j → j < 12 → D1.at_ j = DiskS.layA D0.at_ all1 j := by
  have hl0 : D0.lasts.length = 12 := rfl
  obtain ⟨a1, a2, a3⟩ := calm0.acts (LogS.fmtA 5) (by rw [hl0]; exact in1)
  have l1 : (D0.acts (LogS.fmtA 5)).2.lasts.length = 12 := by rw [DiskS.length_acts]; rfl
  obtain ⟨b1, b2, b3⟩ := a2.acts L0.fmtB (by rw [l1]; exact in2)
  have l2 : ((D0.acts (LogS.fmtA 5)).2.acts L0.fmtB).2.lasts.length = 12 := by rw [DiskS.length_acts]; exact l1
  obtain ⟨c1, c2, c3⟩ := b2.acts L0.headAs (by rw [l2]; exact in3)
  have e : LogS.format D0 5 = ((D0.acts (LogS.fmtA 5)).2.acts L0.fmtB).2.acts L0.headAs := by
    unfold LogS.format
    rw [if_neg (by decide), if_neg (by decide), if_neg (by rw [hl0]; decide)]
    rw [show (5 : Int).toNat = 5 from rfl]
    rw [if_neg (by rw [a1]; simp), if_neg (by rw [show LogS.fresh D0 5 = L0 from rfl, b1]; simp)]
    rfl
  have hw : (((D0.acts (LogS.fmtA 5)).2.acts L0.fmtB).2.acts L0.headAs).2.waits = fun _ => none := by
    have : L0.headAs = [.write ((L0.gen % 2 : Nat) : Int) L0.headF.sector] ++ [.flush] := rfl
    rw [this]
    refine DiskS.flush_waits b2 _ ?_
    rw [l2]
    intro i s h
    exact in3 i s (by rw [this]; exact List.mem_append_left _ h)
  unfold D1
  rw [e]
  refine ⟨c1, c2, by rw [DiskS.length_acts]; exact l2, hw, fun j h0 h1 => ?_⟩
  rw [c3 j h0 (by rw [l2]; exact h1)]
  unfold all1
  rw [DiskS.layA_append, DiskS.layA_append]
  refine DiskS.layA_congr (n := 12) (fun j g0 g1 => ?_) _ j h0 h1
  rw [b3 j g0 (by rw [l1]; exact g1)]
  exact DiskS.layA_congr (n := 12) (fun j k0 k1 => a3 j k0 (by rw [hl0]; exact k1)) _ j g0 g1
def S1 : LogS := ⟨D1, 5, 5, 1, 0, 0, fun _ => none, false⟩
theorem at1 (j : Nat) (hj : j < 12) : D1.at_ (j : Int) = DiskS.layA D0.at_ all1 (j : Int) := fmt.2.2.2.2 j (by omega) (by omega)
theorem a0 : D1.at_ 0 = Arr.zero := (at1 0 (by decide)).trans rfl
theorem a1 : D1.at_ 1 = L0.headF.sector := (at1 1 (by decide)).trans rfl
theorem a2 : D1.at_ 2 = Arr.zero := (at1 2 (by decide)).trans rfl
theorem a6 : D1.at_ 6 = Arr.zero := (at1 6 (by decide)).trans rfl
theorem a9 : D1.at_ 9 = (L0.homeF 2 Arr.zero).sector := (at1 9 (by decide)).trans rfl
theorem read1 (j : Nat) (hj : j < 12) : D1.read (j : Int) = (D1.at_ (j : Int), 0) := fmt.2.1.read (by omega) (by rw [fmt.2.2.1]; omega)
/-- The heads of a disk on which the sectors 0 and 1 are as Format laid them. -/
theorem heads_of {D : DiskS} (hc : D.Calm) (hl : D.lasts.length = 12) (h0 : D.at_ 0 = Arr.zero) (h1 : D.at_ 1 = L0.headF.sector) : LogS.heads D = ⟨D, 5, 5, 1, 0, 0, fun _ => none, false⟩ := by
  have r0 : D.read 0 = (Arr.zero, 0) := by rw [hc.read (by decide) (by rw [hl]; decide), h0]
  have r1 : D.read 1 = (L0.headF.sector, 0) := by rw [hc.read (by decide) (by rw [hl]; decide), h1]
  unfold LogS.heads
  rw [r0, r1]
  simp only
  rw [LogS.chooses_zero]
  have e : L0.headF = ⟨1, 1, 0, 0, numsPage [5, 5]⟩ := rfl
  rw [e, LogS.chooses_of (S := LogS.blank D) (g := 1) (log := 5) (pages := 5) (show (0 : Nat) < 1 by decide) (by decide) (by decide) (by decide) (by decide) (by decide) (by decide) (by rw [show (LogS.blank D).disk = D from rfl, hl])]
  rfl
theorem open1 : LogS.opens D1 = (0, some S1, D1) := by
  obtain ⟨_, hc, hl, _, _⟩ := fmt
  have hh := heads_of hc hl a0 a1
  have e0 : (D1.read 0).2 = 0 := by rw [hc.read (by decide) (by rw [hl]; decide)]
  have e1 : (D1.read 1).2 = 0 := by rw [hc.read (by decide) (by rw [hl]; decide)]
  have hr : S1.record = none := by
    apply LogS.record_none
    apply LogS.atOk_none
    show reads (D1.at_ 2) = none
    rw [a2]; exact reads_zero
  unfold LogS.opens
  rw [if_neg (by rw [e0]; simp), if_neg (by rw [e1]; simp), hh]
  show (if (1 : Nat) = 0 then _ else if (S1.runs 5).checkpoint.1 ≠ 0 then _ else _) = _
  rw [if_neg (by decide), LogS.runs_stop 5 S1 hr]
  have hk : S1.checkpoint = (0, S1) := by
    unfold LogS.checkpoint
    rw [if_neg (by decide), if_pos (by rfl)]
  rw [hk]
  rfl
/-- What the first Commit writes, and what is there behind it. -/
def w1 (a : Page) : List (Nat × Page) := [(1, a), (4, a)]
def D2 (a : Page) : DiskS := (D1.acts (S1.writeAs (w1 a))).2
def S2 (a : Page) : LogS := ({ S1 with disk := D2 a } : LogS).took (w1 a)
theorem inW (a : Page) : DiskS.InA 12 (S1.writeAs (w1 a)) := by
  unfold LogS.writeAs
  intro i s h
  rcases List.mem_append.1 h with h | h
  · exact LogS.inA_puts S1 12 _ _ (by show ((2 + 0 + 3 : Nat) : Int) ≤ 12; decide) i s h
  · rcases List.mem_cons.1 h with h | h
    · cases h
    · rcases List.mem_append.1 h with h | h
      · exact LogS.inA_puts S1 12 _ _ (by show ((3 + 0 + 2 + 1 : Nat) : Int) ≤ 12; decide) i s h
      · simp at h
theorem com (a : Page) : (D1.acts (S1.writeAs (w1 a))).1 = 0 ∧ (D2 a).Calm ∧ (D2 a).lasts.length = 12 ∧ (D2 a).waits = (fun _ => none) ∧ ∀ (j : Int), 0 ≤ j → j < 12 → (D2 a).at_ j = DiskS.layA D1.at_ (S1.writeAs (w1 a)) j := by
  obtain ⟨_, hc, hl, _, _⟩ := fmt
  obtain ⟨b1, b2, b3⟩ := hc.acts (S1.writeAs (w1 a)) (by rw [hl]; exact inW a)
  refine ⟨b1, b2, by unfold D2; rw [DiskS.length_acts]; exact hl, ?_, fun j h0 h1 => b3 j h0 (by rw [hl]; exact h1)⟩
  unfold D2
  have e : S1.writeAs (w1 a) = (S1.putsA (2 + S1.used) (LogS.recFrames (w1 a)) ++ (.flush :: S1.putsA (3 + S1.used + (w1 a).length) [LogS.frame4 (w1 a).length])) ++ [.flush] := by
    unfold LogS.writeAs; rw [List.append_assoc]; rfl
  rw [e]
  refine DiskS.flush_waits hc _ ?_
  rw [hl]
  intro i s h
  exact inW a i s (by rw [e]; exact List.mem_append_left _ h)
theorem may1 (a : Page) : S1.may [(1, a), (4, a)] = 0 := by
  unfold LogS.may
  have h1 : S1.pages = 5 := rfl
  have h2 : S1.log = 5 := rfl
  rw [if_pos, if_neg]
  · simp [h2]
  · rw [h1]; simp
theorem commit1 (a : Page) : S1.commit [(1, a), (4, a)] = (0, S2 a) := by
  have hn : LogS.nats [((1 : Int), a), (4, a)] = w1 a := rfl
  unfold LogS.commit
  rw [if_neg (by rw [may1]; simp), if_neg (by simp), if_neg (by decide), if_neg (by show ¬ 5 < 0 + 2 + 2; decide), hn]
  unfold LogS.write
  rw [if_neg (by rw [show S1.disk = D1 from rfl, (com a).1]; simp)]
  rfl
def D2a (a : Page) : DiskS := { D2 a with armed := 2 }
theorem arm1 (a : Page) : (S2 a).disk.arm 2 = (0, D2a a) := by unfold DiskS.arm; rw [if_neg (by decide)]; rfl
def S2a (a : Page) : LogS := { S2 a with disk := D2a a }
theorem kept2 (a : Page) : (S2a a).kept = [(1, a), (4, a)] := rfl
/-- The power goes at the second home. -/
def D3 (a : Page) : DiskS := ((((D2a a).put 8 (L0.homeF 1 a).sector).goes).put 11 (L0.homeF 4 a).sector).goes
theorem goes_set {D : DiskS} {n : Int} (h : D.armed = n) (hn : n ≠ 0) : D.goes = { D with armed := n - 1, dead := n == 1 } := by
  unfold DiskS.goes; rw [if_neg (by rw [h]; exact hn), h]
theorem went_of {D : DiskS} {n : Int} (h : D.armed = n) : D.went = (n == 1) := by unfold DiskS.went; rw [h]
theorem log2 (a : Page) : (S2a a).log = 5 := rfl
theorem gen2 (a : Page) : (S2a a).gen = 1 := rfl
theorem homeF2 (a : Page) (p : Nat) : (S2a a).homeF p a = L0.homeF p a := by unfold LogS.homeF; rw [gen2]; rfl
theorem homeA_1 (a : Page) : (S2a a).homeA 1 a = .write 8 (L0.homeF 1 a).sector := by
  unfold LogS.homeA; rw [log2, homeF2]; rfl
theorem homeA_4 (a : Page) : (S2a a).homeA 4 a = .write 11 (L0.homeF 4 a).sector := by
  unfold LogS.homeA; rw [log2, homeF2]; rfl
theorem homeAs2 (a : Page) : (S2a a).homeAs = [.write 8 (L0.homeF 1 a).sector, .write 11 (L0.homeF 4 a).sector, .flush] := by
  unfold LogS.homeAs; rw [kept2]; simp only [List.map_cons, List.map_nil, List.cons_append, List.nil_append, homeA_1, homeA_4]
theorem two_one : ((2 : Int) == 1) = false := by decide
theorem one_one : ((1 : Int) == 1) = true := by decide
theorem acts_two {E : DiskS} (hd : E.dead = false) (hle : E.lasts.length = 12) (ha : E.armed = 2) (s1 s2 : Sec) : E.acts [.write 8 s1, .write 11 s2, .flush] = (6, ((E.put 8 s1).goes.put 11 s2).goes) := by
  have m1 : E.may 8 = 0 := by unfold DiskS.may; rw [if_neg (by simp [hd]), if_neg (by decide), if_neg (by rw [hle]; decide)]
  have w1 : E.write 8 s1 = (0, (E.put 8 s1).goes) := by
    unfold DiskS.write; rw [if_pos m1, went_of ha, two_one]; simp
  have pl : (E.put 8 s1).lasts = E.lasts := rfl
  have pa : (E.put 8 s1).armed = 2 := ha
  have g1 : (E.put 8 s1).goes = { E.put 8 s1 with armed := 2 - 1, dead := (2 : Int) == 1 } := goes_set pa (by decide)
  have ga : (E.put 8 s1).goes.armed = 1 := by rw [g1]; rfl
  have gd : (E.put 8 s1).goes.dead = false := by rw [g1]; exact two_one
  have gl : (E.put 8 s1).goes.lasts.length = 12 := by rw [g1]; exact hle
  generalize hF : (E.put 8 s1).goes = F at w1 ga gd gl ⊢
  have m2 : F.may 11 = 0 := by
    unfold DiskS.may
    rw [if_neg (by simp [gd]), if_neg (by decide), if_neg (by rw [gl]; decide)]
  have w2 : F.write 11 s2 = (6, (F.put 11 s2).goes) := by
    unfold DiskS.write
    rw [if_pos m2, went_of ga, one_one]; simp
  rw [DiskS.acts_cons]
  show (if (E.write 8 s1).1 = 0 then (E.write 8 s1).2.acts [.write 11 s2, .flush] else E.write 8 s1) = _
  rw [w1, if_pos rfl]
  show F.acts [.write 11 s2, .flush] = _
  rw [DiskS.acts_cons]
  show (if (F.write 11 s2).1 = 0 then (F.write 11 s2).2.acts [.flush] else F.write 11 s2) = _
  rw [w2, if_neg (by simp)]
theorem set_dead (D : DiskS) (n : Int) : ({ D with armed := n } : DiskS).dead = D.dead := rfl
theorem set_lasts (D : DiskS) (n : Int) : ({ D with armed := n } : DiskS).lasts = D.lasts := rfl
theorem set_armed (D : DiskS) (n : Int) : ({ D with armed := n } : DiskS).armed = n := rfl
theorem D2a_eq (a : Page) : D2a a = { D2 a with armed := 2 } := rfl
theorem acts3 (a : Page) : (D2a a).acts (S2a a).homeAs = (6, D3 a) := by
  have hd : (D2a a).dead = false := by rw [D2a_eq, set_dead]; exact (com a).2.1.dead
  have hl : (D2a a).lasts.length = 12 := by rw [D2a_eq, set_lasts]; exact (com a).2.2.1
  have ha : (D2a a).armed = 2 := by rw [D2a_eq, set_armed]
  rw [homeAs2]
  unfold D3
  generalize D2a a = E at hd hl ha ⊢
  exact acts_two hd hl ha _ _
theorem may2 (a : Page) : (S2a a).may [(2, a)] = 0 := by
  unfold LogS.may
  have h1 : (S2a a).pages = 5 := rfl
  have h2 : (S2a a).log = 5 := rfl
  rw [if_pos, if_neg]
  · simp [h2]
  · rw [h1]; simp
theorem commit2 (a : Page) : (S2a a).commit [(2, a)] = (6, { S2a a with disk := D3 a, dead := true }) := by
  have hk : (S2a a).checkpoint = (6, { S2a a with disk := D3 a, dead := true }) := by
    unfold LogS.checkpoint
    rw [if_neg (by show ¬ (false = true); decide), if_neg (by show ¬ (4 : Nat) = 0; decide), if_pos (by rw [show (S2a a).disk = D2a a from rfl, acts3]; simp), show (S2a a).disk = D2a a from rfl, acts3]
    rfl
  unfold LogS.commit
  rw [if_neg (by rw [may2]; simp), if_neg (by simp), if_neg (by show ¬ (false = true); decide), if_pos (by show 5 < 4 + 1 + 2; decide), hk, if_pos (by simp)]
theorem set_ok {D : DiskS} {n : Int} (h : D.Ok) (h0 : 0 ≤ n) (h1 : n ≤ 9223372036854775807) : ({ D with armed := n } : DiskS).Ok := ⟨h.some, h.size, h.sup, h0, h1⟩
theorem rec_of {S T : LogS} (h1 : S.gen = T.gen) (h2 : S.records = T.records) (f : FrameV) : S.rec_ f = T.rec_ f := by unfold LogS.rec_; rw [h1, h2]
/-- The power comes back and nothing that waited is kept. -/
theorem on_two {E : DiskS} (ok : E.Ok) (hd : E.dead = false) (hle : E.lasts.length = 12) (ha : E.armed = 2) (s1 s2 : Sec) :
    ((((E.put 8 s1).goes.put 11 s2).goes).on []).1 = 0 ∧ ((((E.put 8 s1).goes.put 11 s2).goes).on []).2.Calm ∧ ((((E.put 8 s1).goes.put 11 s2).goes).on []).2.lasts = E.lasts ∧ ((((E.put 8 s1).goes.put 11 s2).goes).on []).2.waits = fun _ => none := by
  have m1 : E.may 8 = 0 := by unfold DiskS.may; rw [if_neg (by simp [hd]), if_neg (by decide), if_neg (by rw [hle]; decide)]
  have k1 := (ok.put (s := s1) m1).goes
  have pa : (E.put 8 s1).armed = 2 := ha
  have g1 : (E.put 8 s1).goes = { E.put 8 s1 with armed := 2 - 1, dead := (2 : Int) == 1 } := goes_set pa (by decide)
  have ga : (E.put 8 s1).goes.armed = 1 := by rw [g1]; rfl
  have gd : (E.put 8 s1).goes.dead = false := by rw [g1]; exact two_one
  have gl : (E.put 8 s1).goes.lasts = E.lasts := by rw [g1]; rfl
  generalize (E.put 8 s1).goes = F at k1 ga gd gl ⊢
  have m2 : F.may 11 = 0 := by
    unfold DiskS.may
    rw [if_neg (by simp [gd]), if_neg (by decide), if_neg (by rw [gl, hle]; decide)]
  have k2 := (k1.put (s := s2) m2).goes
  have pb : (F.put 11 s2).armed = 1 := ga
  have g2 : (F.put 11 s2).goes = { F.put 11 s2 with armed := 1 - 1, dead := (1 : Int) == 1 } := goes_set pb (by decide)
  have hb : (F.put 11 s2).goes.armed = 0 := by rw [g2]; rfl
  have hdd : (F.put 11 s2).goes.dead = true := by rw [g2]; exact one_one
  have hl2 : (F.put 11 s2).goes.lasts = E.lasts := by rw [g2]; exact gl
  generalize (F.put 11 s2).goes = G at k2 hb hdd hl2 ⊢
  have e : G.on [] = (0, { G with dead := false, lasts := DiskS.lay G.lasts (G.kept []), waits := fun _ => none }) := by
    unfold DiskS.on; rw [if_pos hdd]
  have hk : G.kept [] = fun _ => none := by unfold DiskS.kept; funext i; rw [if_neg (by simp)]
  have hO := k2.on []
  rw [e, hk, DiskS.lay_none] at hO ⊢
  exact ⟨rfl, ⟨rfl, hb, hO⟩, hl2, rfl⟩
def D4 (a : Page) : DiskS := ((D3 a).on []).2
theorem back (a : Page) : ((D3 a).on []).1 = 0 ∧ (D4 a).Calm ∧ (D4 a).lasts = (D2 a).lasts ∧ (D4 a).waits = fun _ => none := by
  have hd : (D2a a).dead = false := by rw [D2a_eq, set_dead]; exact (com a).2.1.dead
  have hl : (D2a a).lasts.length = 12 := by rw [D2a_eq, set_lasts]; exact (com a).2.2.1
  have ha : (D2a a).armed = 2 := by rw [D2a_eq, set_armed]
  have hk : (D2a a).Ok := by rw [D2a_eq]; exact set_ok (com a).2.1.ok (by decide) (by decide)
  have hll : (D2a a).lasts = (D2 a).lasts := by rw [D2a_eq, set_lasts]
  unfold D4 D3
  rw [← hll]
  generalize D2a a = E at hd hl ha hk ⊢
  exact on_two hk hd hl ha _ _
theorem on3 (a : Page) : (D3 a).on [] = (0, D4 a) := Prod.ext (back a).1 rfl
theorem len4 (a : Page) : (D4 a).lasts.length = 12 := by rw [(back a).2.2.1]; exact (com a).2.2.1
theorem at4 (a : Page) (j : Int) (h0 : 0 ≤ j) (h1 : j < 12) : (D4 a).at_ j = DiskS.layA D1.at_ (S1.writeAs (w1 a)) j := by
  rw [← (com a).2.2.2.2 j h0 h1]
  unfold DiskS.at_
  rw [(back a).2.2.2, (back a).2.2.1, (com a).2.2.2.1]
theorem b0 (a : Page) : (D4 a).at_ 0 = Arr.zero := (at4 a 0 (by decide) (by decide)).trans a0
theorem b1 (a : Page) : (D4 a).at_ 1 = L0.headF.sector := (at4 a 1 (by decide) (by decide)).trans a1
theorem b6 (a : Page) : (D4 a).at_ 6 = Arr.zero := (at4 a 6 (by decide) (by decide)).trans a6
theorem b9 (a : Page) : (D4 a).at_ 9 = (L0.homeF 2 Arr.zero).sector := (at4 a 9 (by decide) (by decide)).trans a9
theorem b2 (a : Page) : (D4 a).at_ 2 = (S1.rec_ (LogS.frame2 [1, 4])).sector := (at4 a 2 (by decide) (by decide)).trans rfl
theorem b3 (a : Page) : (D4 a).at_ 3 = (S1.rec_ (LogS.frame3 0 a)).sector := (at4 a 3 (by decide) (by decide)).trans rfl
theorem b4 (a : Page) : (D4 a).at_ 4 = (S1.rec_ (LogS.frame3 1 a)).sector := (at4 a 4 (by decide) (by decide)).trans rfl
theorem b5 (a : Page) : (D4 a).at_ 5 = (S1.rec_ (LogS.frame4 2)).sector := (at4 a 5 (by decide) (by decide)).trans rfl
def T4 (a : Page) : LogS := ⟨D4 a, 5, 5, 1, 0, 0, fun _ => none, false⟩
theorem ok4 (a : Page) : (T4 a).Ok := 
  ⟨by show 3 ≤ 5; decide, by show 5 ≤ 4000; decide, by show 1 ≤ 5; decide, by show 5 ≤ 16384; decide, (len4 a).symm, by show 0 ≤ 5; decide, by show 0 ≤ 0; decide, by show 1 < 18446744073709551616; decide, fun i x h => by cases h⟩
theorem gen4 (a : Page) : (T4 a).gen = 1 := rfl
theorem num4 (a : Page) : (T4 a).records = 0 := rfl
theorem gen1 : S1.gen = 1 := rfl
theorem num1 : S1.records = 0 := rfl
theorem rec_t (a : Page) (f : FrameV) : (T4 a).rec_ f = S1.rec_ f := rec_of ((gen4 a).trans gen1.symm) ((num4 a).trans num1.symm) f
theorem names1 (a : Page) : (w1 a).map (·.1) = [1, 4] := rfl
theorem lw1 (a : Page) : (w1 a).length = 2 := rfl
theorem used4 (a : Page) : (T4 a).used = 0 := rfl
theorem disk4 (a : Page) : (T4 a).disk = D4 a := rfl
theorem rec4 (a : Page) : (T4 a).record = some (w1 a) := by
  refine LogS.record_of (ok4 a) (ws := w1 a) (by show 1 ≤ 2; decide) (by show 2 ≤ 120; decide) (by show 0 + 2 + 2 ≤ 5; decide) ?_ ?_ (by rw [rec_t, names1, used4, disk4]; exact b2 a) ?_ (by rw [rec_t, lw1, used4, disk4]; exact b5 a)
  · intro q hq
    show q.1 < 5
    rcases List.mem_cons.1 hq with h | h
    · rw [h]; show 1 < 5; decide
    · rw [List.mem_singleton.1 h]; show 4 < 5; decide
  · show ([1, 4] : List Nat).Nodup
    decide
  · intro k q hk
    match k, hk with
    | 0, hk => cases hk; rw [rec_t, used4, disk4]; exact b3 a
    | 1, hk => cases hk; rw [rec_t, used4, disk4]; exact b4 a
    | n + 2, hk => cases hk
def U4 (a : Page) : LogS := (T4 a).took (w1 a)
theorem rec4b (a : Page) : (U4 a).record = none := by
  apply LogS.record_none
  apply LogS.atOk_none
  show reads ((D4 a).at_ 6) = none
  rw [b6]; exact reads_zero
theorem genU (a : Page) : (U4 a).gen = 1 := rfl
theorem logU (a : Page) : (U4 a).log = 5 := rfl
theorem pagesU (a : Page) : (U4 a).pages = 5 := rfl
theorem usedU (a : Page) : (U4 a).used = 4 := rfl
theorem deadU (a : Page) : (U4 a).dead = false := rfl
theorem diskU (a : Page) : (U4 a).disk = D4 a := rfl
theorem keptU (a : Page) : (U4 a).kept = [(1, a), (4, a)] := rfl
theorem homeFU (a : Page) (p : Nat) : (U4 a).homeF p a = L0.homeF p a := by unfold LogS.homeF; rw [genU]; rfl
theorem homeU1 (a : Page) : (U4 a).homeA 1 a = .write 8 (L0.homeF 1 a).sector := by unfold LogS.homeA; rw [logU, homeFU]; rfl
theorem homeU4 (a : Page) : (U4 a).homeA 4 a = .write 11 (L0.homeF 4 a).sector := by unfold LogS.homeA; rw [logU, homeFU]; rfl
def homes5 (a : Page) : List DAct := [.write 8 (L0.homeF 1 a).sector, .write 11 (L0.homeF 4 a).sector, .flush]
theorem homesU (a : Page) : (U4 a).homeAs = homes5 a := by
  unfold LogS.homeAs homes5; rw [keptU]; simp only [List.map_cons, List.map_nil, List.cons_append, List.nil_append, homeU1, homeU4]
theorem in5 (a : Page) : DiskS.InA 12 (homes5 a) := by
  intro i s h
  unfold homes5 at h
  rcases List.mem_cons.1 h with h | h
  · cases h; decide
  · rcases List.mem_cons.1 h with h | h
    · cases h; decide
    · rcases List.mem_cons.1 h with h | h
      · cases h
      · cases h
def D5 (a : Page) : DiskS := ((D4 a).acts (homes5 a)).2
theorem acts5 (a : Page) : ((D4 a).acts (homes5 a)).1 = 0 ∧ (D5 a).Calm ∧ (D5 a).lasts.length = 12 ∧ ∀ (j : Int), 0 ≤ j → j < 12 → (D5 a).at_ j = DiskS.layA (D4 a).at_ (homes5 a) j := by
  obtain ⟨b1, b2, b3⟩ := (back a).2.1.acts (homes5 a) (by rw [len4]; exact in5 a)
  exact ⟨b1, b2, by unfold D5; rw [DiskS.length_acts]; exact len4 a, fun j h0 h1 => b3 j h0 (by rw [len4]; exact h1)⟩
def V4 (a : Page) : LogS := { U4 a with disk := D5 a }
def head6 : List DAct := [.write 0 (⟨1, 2, 0, 0, numsPage [5, 5]⟩ : FrameV).sector, .flush]
theorem genN (a : Page) : (V4 a).next.gen = 2 := rfl
theorem logN (a : Page) : (V4 a).next.log = 5 := rfl
theorem pagesN (a : Page) : (V4 a).next.pages = 5 := rfl
theorem headN (a : Page) : (V4 a).next.headAs = head6 := by
  unfold LogS.headAs LogS.headF head6; rw [genN, logN, pagesN]; rfl
theorem in6 : DiskS.InA 12 head6 := by
  intro i s h
  unfold head6 at h
  rcases List.mem_cons.1 h with h | h
  · cases h; decide
  · rcases List.mem_cons.1 h with h | h
    · cases h
    · cases h
def D6 (a : Page) : DiskS := ((D5 a).acts head6).2
theorem acts6 (a : Page) : ((D5 a).acts head6).1 = 0 ∧ (D6 a).Calm ∧ (D6 a).lasts.length = 12 ∧ ∀ (j : Int), 0 ≤ j → j < 12 → (D6 a).at_ j = DiskS.layA (D5 a).at_ head6 j := by
  obtain ⟨b1, b2, b3⟩ := (acts5 a).2.1.acts head6 (by rw [(acts5 a).2.2.1]; exact in6)
  exact ⟨b1, b2, by unfold D6; rw [DiskS.length_acts]; exact (acts5 a).2.2.1, fun j h0 h1 => b3 j h0 (by rw [(acts5 a).2.2.1]; exact h1)⟩
/-- The log behind the failure. -/
def S6 (a : Page) : LogS := ({ (V4 a).next with disk := D6 a } : LogS).cleared
theorem set_disk (L : LogS) (D : DiskS) : ({ L with disk := D } : LogS).disk = D := rfl
theorem V4_eq (a : Page) : V4 a = { U4 a with disk := D5 a } := rfl
theorem diskV (a : Page) : (V4 a).disk = D5 a := by rw [V4_eq, set_disk]
theorem D6_eq (a : Page) : D6 a = ((D5 a).acts head6).2 := rfl
theorem raise6 (a : Page) : (V4 a).raise = (0, { (V4 a).next with disk := D6 a }) := by
  unfold LogS.raise
  rw [headN, diskV, (acts6 a).1, ← D6_eq]
theorem check6 (a : Page) : (U4 a).checkpoint = (0, S6 a) := by
  unfold LogS.checkpoint
  rw [if_neg (by rw [deadU]; decide), if_neg (by rw [usedU]; decide), homesU, diskU, if_neg (by rw [(acts5 a).1]; simp)]
  show (if (V4 a).raise.1 ≠ 0 then _ else (0, (V4 a).raise.2.cleared)) = _
  rw [if_neg (by rw [raise6]; simp), raise6]
  rfl
theorem c8 (a : Page) : (D6 a).at_ 8 = (L0.homeF 1 a).sector := ((acts6 a).2.2.2 8 (by decide) (by decide)).trans (((acts5 a).2.2.2 8 (by decide) (by decide)).trans rfl)
theorem c11 (a : Page) : (D6 a).at_ 11 = (L0.homeF 4 a).sector := ((acts6 a).2.2.2 11 (by decide) (by decide)).trans (((acts5 a).2.2.2 11 (by decide) (by decide)).trans rfl)
theorem c9 (a : Page) : (D6 a).at_ 9 = (L0.homeF 2 Arr.zero).sector := ((acts6 a).2.2.2 9 (by decide) (by decide)).trans (((acts5 a).2.2.2 9 (by decide) (by decide)).trans (b9 a))
theorem disk_cleared (L : LogS) : L.cleared.disk = L.disk := rfl
theorem S6_eq (a : Page) : S6 a = ({ (V4 a).next with disk := D6 a } : LogS).cleared := rfl
theorem diskS6 (a : Page) : (S6 a).disk = D6 a := by rw [S6_eq, disk_cleared, set_disk]
theorem heads4 (a : Page) : LogS.heads (D4 a) = T4 a := heads_of (back a).2.1 (len4 a) (b0 a) (b1 a)
theorem runs4 (a : Page) : (T4 a).runs 5 = U4 a := by
  rw [LogS.runs_succ, rec4]
  exact LogS.runs_stop 4 (U4 a) (rec4b a)
theorem log4 (a : Page) : (T4 a).log = 5 := rfl
theorem open4 (a : Page) : LogS.opens (D4 a) = (0, some (S6 a), D6 a) := by
  have hc := (back a).2.1
  have e0 : ((D4 a).read 0).2 = 0 := by rw [hc.read (by decide) (by rw [len4]; decide)]
  have e1 : ((D4 a).read 1).2 = 0 := by rw [hc.read (by decide) (by rw [len4]; decide)]
  have hg : ¬ (LogS.heads (D4 a)).gen = 0 := by rw [heads4, gen4]; exact Nat.one_ne_zero
  have hr : ((LogS.heads (D4 a)).runs (LogS.heads (D4 a)).log).checkpoint = (0, S6 a) := by rw [heads4, log4, runs4, check6]
  unfold LogS.opens
  rw [if_neg (not_not_intro e0), if_neg (not_not_intro e1), if_neg hg, hr, if_neg (not_not_intro rfl), diskS6]
theorem genS6 (a : Page) : (S6 a).gen = 2 := rfl
theorem logS6 (a : Page) : (S6 a).log = 5 := rfl
theorem pagesS6 (a : Page) : (S6 a).pages = 5 := rfl
theorem deadS6 (a : Page) : (S6 a).dead = false := rfl
theorem overS6 (a : Page) : (S6 a).over = fun _ => none := rfl
theorem read6 (a : Page) {p : Nat} {x : Page} (hp : p < 5) (hat : (D6 a).at_ ((7 + p : Nat) : Int) = (L0.homeF p x).sector) : (S6 a).read (p : Int) = ((x, 0), S6 a) := by
  refine LogS.read_home (T := L0) (deadS6 a) (by rw [diskS6]; exact (acts6 a).2.1) (by rw [pagesS6]; exact hp) (by rw [logS6, pagesS6, diskS6, (acts6 a).2.2.1]) (by rw [overS6]) (by decide) (by omega) ?_
  rw [diskS6, logS6]
  exact hat
theorem readA (a : Page) : (S6 a).read 1 = ((a, 0), S6 a) := read6 a (p := 1) (by decide) (c8 a)
theorem readB (a : Page) : (S6 a).read 4 = ((a, 0), S6 a) := read6 a (p := 4) (by decide) (c11 a)
theorem readC (a : Page) : (S6 a).read 2 = ((Arr.zero, 0), S6 a) := read6 a (p := 2) (by decide) (c9 a)
end WorksP
end Go.Cib
/-
  A literal of two images.
-/
namespace Go.Cib
open Go Go.RowKit
theorem fill_two {m : Nat} {c v u : Array Value} (hc : c.size = m + m) (hv : v.size = m) (hu : u.size = m) : Instr.fill (fun i => some (i * m, m)) c [(0, .agg v), (1, .agg u)] = some (v ++ u) := by
  unfold Instr.fill Instr.fill Instr.fill
  simp only [Nat.zero_mul, Nat.one_mul, Value.cells, hv, hu]
  have e1 : v.zipIdx.foldl (fun (cs : Array Value) (x : Value × Nat) => cs.setIfInBounds (0 + x.2) x.1) c = (v.toList ++ c.toList.drop m).toArray := by
    have h := foldl_set v.toList 0 c (by simp; omega)
    simp only [List.take_zero, List.nil_append, Nat.zero_add, Array.length_toList, hv] at h
    refine Eq.trans ?_ h
    rw [← Array.foldl_toList]
    simp
  rw [e1]
  generalize hd : (v.toList ++ c.toList.drop m).toArray = d
  have hds : d.size = m + m := by rw [← hd]; simp; omega
  have e2 : u.zipIdx.foldl (fun (cs : Array Value) (x : Value × Nat) => cs.setIfInBounds (m + x.2) x.1) d = v ++ u := by
    have h := foldl_set u.toList m d (by simp; omega)
    rw [List.drop_of_length_le (by simp; omega), List.append_nil, ← hd] at h
    have ht : (v.toList ++ c.toList.drop m).toArray.toList.take m = v.toList := by
      show (v.toList ++ c.toList.drop m).take m = v.toList
      rw [List.take_append_of_le_length (by simp; omega), List.take_of_length_le (by simp; omega)]
    rw [ht, hd] at h
    refine Eq.trans ?_ (h.trans (by simp))
    rw [← Array.foldl_toList]
    simp
  rw [e2, if_neg (by simp; omega), if_neg (by simp; omega)]
theorem imgsAt_one {w : World} {b : Nat} {n : Int} {p : Page} {e : TypeId} {fr : Nat × Nat} (h : w.heap[b]? = some (.cells (imageA n p) e fr)) : ImgsAt w (some ⟨b, 0, none⟩) [(n, p)] := by
  intro i q hi
  have s1 := size_imageA n p
  match i, hi with
  | 0, hi => cases hi; exact ⟨b, _, e, fr, rfl, h, by omega, by rw [Nat.zero_mul, Nat.zero_add, ← s1]; exact Array.extract_size⟩
  | k + 1, hi => cases hi
theorem imgsAt_two {w : World} {b : Nat} {n m : Int} {p q : Page} {e : TypeId} {fr : Nat × Nat} (h : w.heap[b]? = some (.cells (imageA n p ++ imageA m q) e fr)) : ImgsAt w (some ⟨b, 0, none⟩) [(n, p), (m, q)] := by
  intro i r hi
  have s1 := size_imageA n p
  have s2 := size_imageA m q
  match i, hi with
  | 0, hi =>
    cases hi
    refine ⟨b, _, e, fr, rfl, h, by simp only [Array.size_append]; omega, ?_⟩
    rw [Nat.zero_mul, Nat.zero_add]
    generalize imageA n p = v at *
    generalize imageA m q = u at *
    apply Array.toList_inj.1
    rw [Array.toList_extract, Array.toList_append, List.extract_eq_take_drop]
    simp [s1]
  | 1, hi =>
    cases hi
    refine ⟨b, _, e, fr, rfl, h, by simp only [Array.size_append]; omega, ?_⟩
    generalize imageA n p = v at *
    generalize imageA m q = u at *
    apply Array.toList_inj.1
    rw [Array.toList_extract, Array.toList_append, List.extract_eq_take_drop]
    rw [show 1 * 481 = v.toList.length by simp; omega, List.drop_left, List.take_of_length_le (by simp; omega)]
  | k + 2, hi => cases hi
section
variable {P : Program} {ops : Array Oper} {rest : List Oper} {a : Act} {w : World} {Q : Exit → Act → World → Prop} {dst : Option Tmp} {ty : TypeId} {pos : String} {af : Array Edge} {x y : Operand} {T S : TypeId}
theorem wc_slice_img2 (hz : ∃ i, P.info? T = some i ∧ i.zero = some (.agg (imageA 0 Arr.zero)) ∧ i.size = 481 ∧ i.bytes ≤ 600) (hS : P.underlying S = some (.slice T)) {n m : Int} {p q : Page} (hx : a.eval x = .agg (imageA n p)) (hy : a.eval y = .agg (imageA m q))
    (h : wpList P ops Q rest (a.put dst (.slice (some ⟨w.heap.size, 0, none⟩) 2 2)) (w.alloc (.cells (imageA n p ++ imageA m q) T))) : wpList P ops Q (⟨dst, .buildSlice S 2 #[(0, x), (1, y)], ty, pos, af, none⟩ :: rest) a w := by
  obtain ⟨i, h1, h2, h3, _⟩ := hz
  refine wc_value rfl ?_ h
  have s1 := size_imageA n p
  have s2 := size_imageA m q
  have s0 : (Value.agg (imageA 0 Arr.zero)).cells.size = 481 := size_imageA 0 Arr.zero
  have hf := fill_two (c := (Array.range 962).map (((Value.agg (imageA 0 Arr.zero)).cells)[· % ((Value.agg (imageA 0 Arr.zero)).cells).size]!)) (m := 481) (by simp) s1 s2
  generalize imageA n p = v at *
  generalize imageA m q = u at *
  generalize imageA 0 Arr.zero = z at *
  unfold execOp
  simp only [Instr.buildSlice, List.map_toArray, List.map_cons, List.map_nil, hx, hy]
  simp [Sem.run_bind, run_underlying hS, sizeOf, typeInfo, zeroValue, h1, h2, h3, newRow, hf]
end
end Go.Cib
/-
  The log's works: the walk of ciboriumlaw08.works.
-/
namespace Go.Proofs.YthbaipljlbddcaaGreat
open Go.RowKit Go.Cib
open WorksP

/-- A block that is made now is none of the log's. -/
theorem LogAt.apart {w : World} {g d L M V : Nat} {S : LogS} (h : LogAt w g d L M V S) : ∀ b : Nat, some (⟨w.heap.size, 0, none⟩ : Addr) = some ⟨b, 0, none⟩ → b ∉ [g, d, L, M, V] := by
  intro b hb
  cases hb
  simp only [List.mem_cons, List.not_mem_nil, or_false, not_or]
  exact ⟨(ne_size h.hg).symm, (ne_size h.hD.hd).symm, (ne_size h.hD.hL).symm, (Nat.ne_of_lt h.hD.hM.lt).symm, (Nat.ne_of_lt h.hV.lt).symm⟩
def txtP : Page := Arr.text [97]
theorem textP_any (w : World) : Calls Tryz.prog 16 #[.string { data := #[97] }] w fun e w' => e = .returned (.agg (secA txtP)) ∧ Tch [] w w' := ptext_any _ _ (by decide)
theorem ok2 (h : S1.Ok) (a : Page) : (S2a a).Ok := by
  have hl : (D2 a).lasts.length = 12 := (com a).2.2.1
  have k1 : ({ S1 with disk := D2 a } : LogS).Ok := h.disk (hl.trans fmt.2.2.1.symm)
  have hu : ({ S1 with disk := D2 a } : LogS).used + (w1 a).length + 2 ≤ ({ S1 with disk := D2 a } : LogS).log := by show 0 + 2 + 2 ≤ 5; decide
  have k2 := LogS.Ok.took k1 (ws := w1 a) hu (by
    intro q hq
    show q.1 < 5
    rcases List.mem_cons.1 hq with h | h
    · rw [h]; show 1 < 5; decide
    · rw [List.mem_singleton.1 h]; show 4 < 5; decide)
  have k3 : (S2 a).Ok := k2
  have hd : (D2a a).lasts.length = (S2 a).disk.lasts.length := by rw [D2a_eq, set_lasts]; rfl
  exact k3.disk hd
/-- An Open that comes to a log. -/
theorem open_ok {w : World} {d L M : Nat} {D D' : DiskS} {S : LogS} (h : DiskAt w d L M D) (ho : LogS.opens D = (0, some S, D')) :
    Calls Tryz.prog 14 #[.pointer (some ⟨d, 0, none⟩)] w fun e w' => ∃ g V, e = .returned (.tuple #[.pointer (some ⟨g, 0, none⟩), .int .i64 0]) ∧ LogAt w' g d L M V S ∧ S.Ok ∧ Tch [d, L, M] w w' ∧ w.heap.size ≤ g ∧ w.heap.size ≤ V := by
  refine (open_any h).mono ?_
  intro e w' hq
  rw [ho] at hq
  obtain ⟨t, _, hq⟩ := hq
  rcases hq with ⟨h1, _⟩ | ⟨S', g, V, h1, h2, _, h4, h5, h6, h7⟩
  · cases h1
  · cases h1
    exact ⟨g, V, h2, h4, h5, t, h6, h7⟩
theorem fillP (n : Int) (p : Page) : fillI 0 Arr.zero [(0, .int .i64 n), (1, .agg (secA p))] = some (imageA n p) := by rw [fillI_num, fillI_page, fillI_nil]
set_option maxRecDepth 20000 in
set_option maxHeartbeats 1000000 in
theorem works_any (w : World) : Calls Tryz.prog 4 #[] w fun e w' => e = .returned (.bool true) ∧ Tch [] w w' := by
  go_enter Tryz.func4, Tryz.ntmps4
  go_wp2_with fail
  refine (new_any w 12 (by omega) (by omega)).mono ?_
  rintro e w1 ⟨d, L, M, rfl, h1, t1, n1, n2, n3⟩
  have H1 : Hid (DiskAt w1 d L M D0) := h1
  have T1 := Lib.hid t1
  have N1 := Lib.hid n1
  have N2 := Lib.hid n2
  have N3 := Lib.hid n3
  clear h1 t1 n1 n2 n3
  go_wp2_with fail
  refine (format_any H1.out 5).mono ?_
  rintro e w2 ⟨rfl, h2, t2⟩
  rw [fmt.1]
  have H2 : Hid (DiskAt w2 d L M D1) := h2
  have T2 := Lib.hid (tch_own T1.out t2 (by simp [N1.out, N2.out, N3.out]))
  clear h2 t2 H1 T1
  go_wp2_with fail
  refine (open_ok H2.out open1).mono ?_
  rintro e w3 ⟨g, V, rfl, h3, o3, t3, g3, v3⟩
  have H3 := Lib.hid h3
  have O3 := Lib.hid o3
  have T3 := Lib.hid (tch_own T2.out t3 (by simp [N1.out, N2.out, N3.out]))
  have G3 := Lib.hid (Nat.le_trans T2.out.size g3)
  have V3 := Lib.hid (Nat.le_trans T2.out.size v3)
  clear h3 o3 t3 g3 v3 H2 T2
  go_wp2_with (go_at_call 15; refine (pages_any H3.out).mono ?_; rintro e w' ⟨rfl, rfl⟩; rw [show (if S1.dead = true then (0 : Int) else (S1.pages : Int)) = 5 from rfl])
  refine (textP_any _).mono ?_
  rintro e w4 ⟨rfl, t4⟩
  have H4 := Lib.hid (H3.out.touch t4 (by simp) (by simp) (by simp) (by simp) (by simp))
  have T4 := Lib.hid (T3.out.trans t4)
  clear t4 H3 T3
  go_upto_region 8 with (first | ((with_reducible refine wc_alloc_arr pageT ?_); go_frame; (try simp only [World.size_alloc])) | ((with_reducible apply wc_store_new pageT); exact rfl; exact rfl; go_frame))
  have b5 : (w4.alloc (.cells (secA txtP) 64)).heap[w4.heap.size]? = some (.cells (secA txtP) 64) := heap_alloc_new _ _
  have t5 : Tch [] w4 (w4.alloc (.cells (secA txtP) 64)) := (Tch.refl _ _).alloc _
  have H5 := Lib.hid (H4.out.touch t5 (by simp) (by simp) (by simp) (by simp) (by simp))
  have T5 := Lib.hid (T4.out.trans t5)
  have B5 := Lib.hid b5
  have PB : Hid (w4.heap.size ∉ [g, d, L, M, V]) := LogAt.apart H4.out _ rfl
  clear b5 t5 H4 T4
  generalize w4.alloc (.cells (secA txtP) 64) = w5 at *
  generalize w4.heap.size = b at *
  clear w4
  go_wp2_with (first | ((with_reducible apply wc_load_var pageT B5.out); exact rfl; go_frame) | ((with_reducible refine wc_build_img (fillP 1 txtP) ?_ ?_); exact rfl; go_frame) | ((with_reducible refine wc_build_img (fillP 4 txtP) ?_ ?_); exact rfl; go_frame) | ((with_reducible refine wc_slice_img2 imgInfo imgsS (n := 1) (m := 4) (p := txtP) (q := txtP) ?_ ?_ ?_); exact rfl; exact rfl; go_frame))
  have t6 : Tch [] w5 (w5.alloc (.cells (imageA 1 txtP ++ imageA 4 txtP) 68)) := (Tch.refl _ _).alloc _
  have i6 : ImgsAt (w5.alloc (.cells (imageA 1 txtP ++ imageA 4 txtP) 68)) (some ⟨w5.heap.size, 0, none⟩) [(1, txtP), (4, txtP)] := imgsAt_two (heap_alloc_new _ _)
  have H6 := Lib.hid (H5.out.touch t6 (by simp) (by simp) (by simp) (by simp) (by simp))
  have T6 := Lib.hid (T5.out.trans t6)
  have B6 := Lib.hid (t6.heap B5.out (by simp))
  have I6 := Lib.hid i6
  have A6 := Lib.hid (LogAt.apart H5.out)
  clear t6 i6 H5 T5 B5
  generalize w5.alloc (.cells (imageA 1 txtP ++ imageA 4 txtP) 68) = w6 at *
  generalize w5.heap.size = c at *
  clear w5
  refine (commit_any H6.out O3.out (ws := [(1, txtP), (4, txtP)]) I6.out (by decide) A6.out).mono ?_
  rintro e w7 ⟨rfl, h7, t7⟩
  rw [commit1] at h7 ⊢
  have H7 : Hid (LogAt w7 g d L M V (S2 txtP)) := h7
  have T7 := Lib.hid (tch_own T6.out t7 (by simp [G3.out, V3.out, N1.out, N2.out, N3.out]))
  have B7 := Lib.hid (t7.heap B6.out PB.out)
  clear h7 t7 H6 T6 B6 I6 A6
  go_wp2_with fail
  refine (arm_any H7.out.hD 2 (by decide)).mono ?_
  rintro e w8 ⟨rfl, h8, t8⟩
  rw [arm1] at h8 ⊢
  have H8 : Hid (LogAt w8 g d L M V (S2a txtP)) := H7.out.disk h8 (t8.mono (by simp))
  have T8 := Lib.hid (tch_own T7.out t8 (by simp [N1.out]))
  have B8 := Lib.hid (t8.heap B7.out (by have := PB.out; simp at this; simp [this]))
  clear h8 t8 H7 T7 B7
  go_wp2_with (first | ((with_reducible apply wc_load_var pageT B8.out); exact rfl; go_frame) | ((with_reducible refine wc_build_img (fillP 2 txtP) ?_ ?_); exact rfl; go_frame) | ((with_reducible refine wc_slice_img imgInfo imgsS (n := 2) (p := txtP) ?_ ?_); exact rfl; go_frame))
  have t9 : Tch [] w8 (w8.alloc (.cells (imageA 2 txtP) 68)) := (Tch.refl _ _).alloc _
  have i9 : ImgsAt (w8.alloc (.cells (imageA 2 txtP) 68)) (some ⟨w8.heap.size, 0, none⟩) [(2, txtP)] := imgsAt_one (heap_alloc_new _ _)
  have H9 := Lib.hid (H8.out.touch t9 (by simp) (by simp) (by simp) (by simp) (by simp))
  have T9 := Lib.hid (T8.out.trans t9)
  have B9 := Lib.hid (t9.heap B8.out (by simp))
  have I9 := Lib.hid i9
  have A9 := Lib.hid (LogAt.apart H8.out)
  clear t9 i9 H8 T8 B8
  generalize w8.alloc (.cells (imageA 2 txtP) 68) = w9 at *
  generalize w8.heap.size = c2 at *
  clear w8
  refine (commit_any H9.out (ok2 O3.out txtP) (ws := [(2, txtP)]) I9.out (by decide) A9.out).mono ?_
  rintro e wa ⟨rfl, ha, ta⟩
  rw [commit2] at ha ⊢
  have HA : Hid (DiskAt wa d L M (D3 txtP)) := ha.hD
  have TA := Lib.hid (tch_own T9.out ta (by simp [G3.out, V3.out, N1.out, N2.out, N3.out]))
  have BA := Lib.hid (ta.heap B9.out PB.out)
  clear ha ta H9 T9 B9 I9 A9 O3
  go_wp2_with fail
  refine (on_any HA.out none 0 [] (fun _ _ h => by cases h) (by decide) (fun _ h => absurd rfl h)).mono ?_
  rintro e wb ⟨rfl, hb, tb⟩
  rw [on3] at hb ⊢
  have HB := Lib.hid hb
  have TB := Lib.hid (tch_own TA.out tb (by simp [N1.out, N2.out, N3.out]))
  have BB := Lib.hid (tb.heap BA.out (by have := PB.out; simp at this; simp [this]))
  clear hb tb HA TA BA
  go_wp2_with fail
  refine (open_ok HB.out (open4 txtP)).mono ?_
  rintro e wc ⟨g', V', rfl, h10, o10, t10, g10, v10⟩
  have HC := Lib.hid h10
  have OC := Lib.hid o10
  have TC := Lib.hid (tch_own TB.out t10 (by simp [N1.out, N2.out, N3.out]))
  have GC := Lib.hid (Nat.le_trans TB.out.size g10)
  have BC := Lib.hid (t10.heap BB.out (by have := PB.out; simp at this; simp [this]))
  have PB' : Hid (b ≠ g') := fun h => by have h5 := (Array.getElem?_eq_some_iff.1 BB.out).1; omega
  clear h10 o10 t10 g10 v10 HB TB BB
  go_wp2_with fail
  refine (logRead_any HC.out OC.out 1).mono ?_
  rintro e wd ⟨rfl, hd, td⟩
  rw [readA] at hd ⊢
  have QC := HC
  clear HC PB
  have PB := PB'
  clear PB'
  simp only
  have QD := Lib.hid (LogAt.touch hd ((Tch.refl [] wd).alloc (.cells (secA txtP) 64)) (by simp) (by simp) (by simp) (by simp) (by simp))
  have TD := Lib.hid ((tch_own TC.out td (by simp [GC.out])).alloc (.cells (secA txtP) 64))
  have BD := Lib.hid (((Tch.refl [] wd).alloc (.cells (secA txtP) 64)).heap (td.heap BC.out (by simp [PB.out])) (by simp))
  have XD : Hid ((wd.alloc (.cells (secA txtP) 64)).heap[wd.heap.size]? = some (.cells (secA txtP) 64)) := heap_alloc_new _ _
  have PX : Hid (wd.heap.size ≠ g') := (ne_size hd.hg).symm
  clear hd td QC TC BC
  go_upto_region 17 with (first | ((with_reducible refine wc_alloc_arr pageT ?_); go_frame; (try simp only [World.size_alloc])) | ((with_reducible apply wc_store_new pageT); exact rfl; exact rfl; go_frame))
  generalize wd.alloc (.cells (secA txtP) 64) = we at *
  generalize wd.heap.size = bX at *
  clear wd
  go_wp2_with fail
  refine (logRead_any QD.out OC.out 4).mono ?_
  rintro e wf ⟨rfl, hd, td⟩
  rw [readB] at hd ⊢
  simp only
  have QE := Lib.hid (LogAt.touch hd ((Tch.refl [] wf).alloc (.cells (secA txtP) 64)) (by simp) (by simp) (by simp) (by simp) (by simp))
  have TE := Lib.hid ((tch_own TD.out td (by simp [GC.out])).alloc (.cells (secA txtP) 64))
  have BE := Lib.hid (((Tch.refl [] wf).alloc (.cells (secA txtP) 64)).heap (td.heap BD.out (by simp [PB.out])) (by simp))
  have XE := Lib.hid (((Tch.refl [] wf).alloc (.cells (secA txtP) 64)).heap (td.heap XD.out (by simp [PX.out])) (by simp))
  have YE : Hid ((wf.alloc (.cells (secA txtP) 64)).heap[wf.heap.size]? = some (.cells (secA txtP) 64)) := heap_alloc_new _ _
  have PY : Hid (wf.heap.size ≠ g') := (ne_size hd.hg).symm
  clear hd td QD TD BD XD
  go_upto_region 18 with (first | ((with_reducible refine wc_alloc_arr pageT ?_); go_frame; (try simp only [World.size_alloc])) | ((with_reducible apply wc_store_new pageT); exact rfl; exact rfl; go_frame))
  generalize wf.alloc (.cells (secA txtP) 64) = wg at *
  generalize wf.heap.size = bY at *
  clear wf
  go_wp2_with fail
  refine (logRead_any QE.out OC.out 2).mono ?_
  rintro e wh ⟨rfl, hd, td⟩
  rw [readC] at hd ⊢
  simp only
  have QF := Lib.hid (LogAt.touch hd ((Tch.refl [] wh).alloc (.cells (secA (Arr.zero : Page)) 64)) (by simp) (by simp) (by simp) (by simp) (by simp))
  have TF := Lib.hid ((tch_own TE.out td (by simp [GC.out])).alloc (.cells (secA (Arr.zero : Page)) 64))
  have BF := Lib.hid (((Tch.refl [] wh).alloc (.cells (secA (Arr.zero : Page)) 64)).heap (td.heap BE.out (by simp [PB.out])) (by simp))
  have XF := Lib.hid (((Tch.refl [] wh).alloc (.cells (secA (Arr.zero : Page)) 64)).heap (td.heap XE.out (by simp [PX.out])) (by simp))
  have YF := Lib.hid (((Tch.refl [] wh).alloc (.cells (secA (Arr.zero : Page)) 64)).heap (td.heap YE.out (by simp [PY.out])) (by simp))
  have ZF : Hid ((wh.alloc (.cells (secA (Arr.zero : Page)) 64)).heap[wh.heap.size]? = some (.cells (secA (Arr.zero : Page)) 64)) := heap_alloc_new _ _
  have PZ : Hid (wh.heap.size ≠ g') := (ne_size hd.hg).symm
  clear hd td QE TE BE XE YE
  go_upto_region 19 with (first | ((with_reducible refine wc_alloc_arr pageT ?_); go_frame; (try simp only [World.size_alloc])) | ((with_reducible apply wc_store_new pageT); exact rfl; exact rfl; go_frame))
  generalize wh.alloc (.cells (secA (Arr.zero : Page)) 64) = wi at *
  generalize wh.heap.size = bZ at *
  clear wh
  go_wp2_with (first | ((with_reducible apply wcg_load_var pageT BF.out); exact rfl; exact rfl; go_frame) | ((with_reducible apply wcg_load_var pageT XF.out); exact rfl; exact rfl; go_frame) | ((with_reducible apply wcg_load_var pageT YF.out); exact rfl; exact rfl; go_frame) | ((with_reducible apply wcg_load_var pageT ZF.out); exact rfl; exact rfl; go_frame) | ((with_reducible refine wcg_build_arr pageT ?_ ?_); exact rfl; go_frame) | ((with_reducible refine wcg_eql_arr pageT (s := txtP) (t := txtP) ?_ ?_ ?_ ?_); exact rfl; exact rfl; exact rfl; rw [decide_eq_true rfl]; go_frame) | ((with_reducible refine wcg_eql_arr pageT (s := Arr.zero) (t := Arr.zero) ?_ ?_ ?_ ?_); exact rfl; exact rfl; exact rfl; rw [decide_eq_true rfl]; go_frame))
  go_ret
  exact ⟨rfl, TF.out⟩
end Go.Proofs.YthbaipljlbddcaaGreat
/-
  Where there is no log all is refused: the walk of WalNil.
-/
namespace Go.Proofs.YthbaipljlbddcaaGreat
open Go.RowKit Go.Cib
end Go.Proofs.YthbaipljlbddcaaGreat
/-
  What the arguments of the statements of layer 8 read as is what their proofs ask of memory.
-/
namespace Go.Proofs.YthbaipljlbddcaaGreat
open Go.ChangeShapes Go.WideShapes Go.ChangeAt Go.RowKit Go.Cib

theorem own : ownKnob Tryz.prog.godebug = none := by kernel_rfl
theorem laidOut : laidOutB Tryz.prog = true := by kernel_rfl

section
variable {H : Type} {enc : TypeId × Value → H} {P : Program} {w : World}
theorem cells_get {base : Nat} {a : Addr} {n : Nat} {cs : List Value} (h : w.cells? base a n = some cs) : cs.length = n ∧ ∀ j v, cs[j]? = some v → w.cell? (a.add j) = some v := by
  obtain ⟨_, h2, h3⟩ := World.cells?_some h
  exact ⟨h2, fun j v hj => by rw [h3 j (by have := (List.getElem?_eq_some_iff.1 hj).1; omega), hj]⟩
theorem plain_addr {a : Addr} {v : Value} (h : w.cell? a = some v) : ∃ b o, a = ⟨b, o, none⟩ := by
  obtain ⟨b, o, s⟩ := a
  cases s with
  | none => exact ⟨b, o, rfl⟩
  | some x =>
    exfalso
    unfold World.cell? at h
    simp only [Option.isSome_some, if_true] at h
    split at h <;> simp at h
/-- A slice of integers. -/
theorem ints_of_trod {t e : TypeId} (ht : P.underlying t = some (.slice e)) (he : P.underlying e = some (.int .i64)) (hc : P.cellsOf e = 1) {fuel : Nat} {v : Value} {x : DataW H × List MemPlace} (h : DataW.trod enc P w 0 (fun _ => true) true fuel t [v] = some x) :
    ∃ (a : Option Addr) (l : List Int) (cap : Nat), v = .slice a l.length cap ∧ IntsAt w a l ∧ l.length ≤ maxLen ∧ (∀ n ∈ l, -9223372036854775808 ≤ n ∧ n ≤ 9223372036854775807) := by
  rcases open_ints ht he hc h with ⟨hcs, _⟩ | ⟨a, l, c, zs, hcs, _, hl, hm, hz, _, hcell, hwz⟩
  · simp at hcs
    exact ⟨none, [], 0, hcs, by intro j x hj; simp at hj, by simp, by simp⟩
  · simp at hcs
    have hlen : (zs.take l).length = l := by rw [List.length_take]; simp at hz; omega
    refine ⟨some a, zs.take l, c, by rw [hlen]; exact hcs, fun j x hj => ?_, by rw [hlen]; omega, fun n hn => ?_⟩
    · have hjl := (List.getElem?_eq_some_iff.1 hj).1
      rw [hlen] at hjl
      have hzj : zs[j]? = some x := by rw [List.getElem?_take, if_pos hjl] at hj; exact hj
      have hjz := (List.getElem?_eq_some_iff.1 hzj).1
      have hcj := hcell j hjz
      rw [List.getD_eq_getElem?_getD, hzj] at hcj
      obtain ⟨b, o, hbo⟩ := plain_addr hcj
      obtain ⟨b', o', s'⟩ := a
      by_cases hj0 : j = 0
      · subst hj0
        simp only [Addr.add, if_true] at hbo hcj
        rw [hbo] at hcj
        exact ⟨b, o, congrArg some hbo, by simpa using hcj⟩
      · have h0 := hcell 0 (by omega)
        obtain ⟨b0, o0, h00⟩ := plain_addr h0
        simp only [Addr.add, if_true] at h00
        cases h00
        rw [add_mk] at hcj
        exact ⟨_, _, rfl, hcj⟩
    · have := hwz n (List.mem_of_mem_take hn)
      simp only [Lit.wf, Bool.and_eq_true, decide_eq_true_eq] at this
      exact this
/-- A slice of texts. -/
theorem texts_of_trod {t e : TypeId} (ht : P.underlying t = some (.slice e)) (he : P.underlying e = some .string) (hc : P.cellsOf e = 1) {fuel : Nat} {v : Value} {x : DataW H × List MemPlace} (h : DataW.trod enc P w 0 (fun _ => true) true fuel t [v] = some x) :
    ∃ (a : Option Addr) (l : List ByteArray) (cap : Nat), v = .slice a l.length cap ∧ TextsAt w a l ∧ l.length ≤ maxLen ∧ ∀ s ∈ l, s.size ≤ maxLen := by
  rcases Deep.open_strs ht he hc h with ⟨hcs, _⟩ | ⟨a, len, cap, m, Sx, hcs, _, hl, hm, hmm, _, hel⟩
  · simp at hcs
    exact ⟨none, [], 0, hcs, by intro j x hj; simp at hj, by simp, by simp⟩
  · simp at hcs hmm
    refine ⟨some a, (List.range len).map Sx, cap, by simpa using hcs, fun j s hj => ?_, by simp; omega, fun s hs => ?_⟩
    · have hjl := (List.getElem?_eq_some_iff.1 hj).1
      simp only [List.length_map, List.length_range] at hjl
      have ho : Sx j = s := by simpa [hjl] using hj
      subst ho
      have hcj := (hel j (by omega)).1
      obtain ⟨b, o, hbo⟩ := plain_addr hcj
      obtain ⟨b', o', s'⟩ := a
      by_cases hj0 : j = 0
      · subst hj0
        simp only [Addr.add, if_true] at hbo hcj
        rw [hbo] at hcj
        exact ⟨b, o, congrArg some hbo, by simpa using hcj⟩
      · have h0 := (hel 0 (by omega)).1
        obtain ⟨b0, o0, h00⟩ := plain_addr h0
        simp only [Addr.add, if_true] at h00
        cases h00
        rw [add_mk] at hcj
        exact ⟨_, _, rfl, hcj⟩
    · obtain ⟨j, hj, rfl⟩ := List.mem_map.1 hs
      exact (hel j (by have := List.mem_range.1 hj; omega)).2
end

section
variable {H : Type} {enc : TypeId × Value → H} {w : World}
theorem cellsInt : Tryz.prog.cellsOf 3 = 1 := by kernel_rfl
theorem cellsStr : Tryz.prog.cellsOf 9 = 1 := by kernel_rfl
theorem cellsInts : Tryz.prog.cellsOf 29 = 1 := by kernel_rfl
theorem cellsTexts : Tryz.prog.cellsOf 54 = 1 := by kernel_rfl
theorem cellsOp : Tryz.prog.cellsOf 56 = 4 := by kernel_rfl
set_option maxRecDepth 20000 in
/-- One op. -/
theorem op_of_trod {fuel : Nat} {cs : List Value} {x : DataW H × List MemPlace} (h : DataW.trod enc Tryz.prog w 0 (fun _ => true) true fuel 56 cs = some x) :
    ∃ (dd ii : Int) (pa ta : Option Addr) (pcap tcap : Nat) (pages : List Int) (texts : List ByteArray), cs = [.int .i64 dd, .int .i64 ii, .slice pa pages.length pcap, .slice ta texts.length tcap] ∧ PagesAt w pa pages ∧ TextsAt w ta texts ∧ (∀ s ∈ texts, s.size ≤ maxLen) ∧ pages.length ≤ maxLen := by
  obtain ⟨xs, n, _, _, hl, hlen, hf⟩ := DataW.trod_struct Tryz.underlying56 h
  rw [cellsOp] at hl
  match xs, hlen with
  | [y0, y1, y2, y3], _ =>
    match cs, hl with
    | [v0, v1, v2, v3], _ =>
      have g0 : DataW.trod enc Tryz.prog w 0 (fun _ => true) true n 3 [v0] = some y0 := by simpa [cellsInt] using hf 0 _ rfl
      have g1 : DataW.trod enc Tryz.prog w 0 (fun _ => true) true n 3 [v1] = some y1 := by simpa [cellsInt] using hf 1 _ rfl
      have g2 : DataW.trod enc Tryz.prog w 0 (fun _ => true) true n 29 [v2] = some y2 := by simpa [cellsInts] using hf 2 _ rfl
      have g3 : DataW.trod enc Tryz.prog w 0 (fun _ => true) true n 54 [v3] = some y3 := by simpa [cellsTexts] using hf 3 _ rfl
      obtain ⟨a0, e0, _, _⟩ := DataW.trod_int Tryz.underlying3 g0
      obtain ⟨a1, e1, _, _⟩ := DataW.trod_int Tryz.underlying3 g1
      obtain ⟨a2, l2, c2, e2, h2, h3, _⟩ := ints_of_trod Tryz.underlying29 Tryz.underlying3 cellsInt g2
      obtain ⟨a3, l3, c3, e3, h4, _, h5⟩ := texts_of_trod Tryz.underlying54 Tryz.underlying9 cellsStr g3
      simp only [List.cons.injEq, and_true] at e0 e1
      subst e0 e1 e2 e3
      exact ⟨a0, a1, a2, a3, c2, c3, l2, l3, rfl, h2, h4, h5, h3⟩
end
end Go.Proofs.YthbaipljlbddcaaGreat
