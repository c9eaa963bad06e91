/-
  Frames read: package wal's read.
-/
import Derived.Test.YthbaipljlbddcaaGreatFrameW
import Derived.Test.YthbaipljlbddcaaGreatRaw
namespace Go.Cib
open Go Go.RowKit
def FrameV.zero : FrameV := ⟨0, 0, 0, 0, Arr.zero⟩
/-- T is the type of frames. -/
structure FrameT (P : Program) (T : TypeId) : Prop where
  agg : AggT P T 484
  info : ∃ i, P.info? T = some i ∧ i.zero = some (.agg (frameA FrameV.zero))
section
variable {P : Program} {T e : TypeId} {ops : Array Oper} {rest : List Oper} {a : Act} {w : World} {Q : Exit → Act → World → Prop} {C : World → Prop} {Qs : Act → Prop} {dst : Option Tmp} {ty : TypeId} {pos : String} {af : Array Edge} {x y : Operand} {gd : Option (Nat × Bool)}
theorem frame_all (f : FrameV) : (frameA f).extract 0 (0 + 484) = frameA f := by
  have h2 := Array.extract_size (xs := frameA f)
  rw [size_frameA] at h2
  rw [Nat.zero_add]; exact h2
theorem spl_frame (f g : FrameV) : spl (frameA f) 0 (frameA g) = frameA g := by
  apply Array.toList_inj.1
  simp only [spl, List.take_zero, List.nil_append, size_frameA, Nat.zero_add]
  rw [List.drop_of_length_le (by rw [Array.length_toList, size_frameA]; omega), List.append_nil]
theorem exec_load_frame (hT : FrameT P T) {b : Nat} {f : FrameV} {fr : Nat × Nat} {o : Oper} (ho : o.op = .load T x) (hb : w.heap[b]? = some (.cells (frameA f) e fr)) (hx : a.eval x = .pointer (some ⟨b, 0, none⟩)) :
    (execOp a.eval o).run P w = .ok (.value (.agg (frameA f))) w := by
  rw [exec_load_agg hT.agg ho hx hb (by rw [size_frameA]; omega), frame_all]
theorem wc_store_frame (hT : FrameT P T) {b : Nat} {f g : FrameV} (hb : w.heap[b]? = some (.cells (frameA f) e)) (hx : a.eval x = .pointer (some ⟨b, 0, none⟩)) (hy : a.eval y = .agg (frameA g))
    (h : wpList P ops Q rest (a.put dst undef) (w.setRow b (frameA g))) : wpList P ops Q (⟨dst, .store T x y, ty, pos, af, none⟩ :: rest) a w := by
  refine wc_done rfl ?_ h
  rw [exec_store_agg hT.agg rfl hx hy (size_frameA g) (frameA_one g) hb (by rw [size_frameA]; omega), spl_frame]
theorem wc_alloc_frame (hT : FrameT P T) (h : wpList P ops Q rest (a.put dst (.pointer (some ⟨w.heap.size, 0, none⟩))) (w.alloc (.cells (frameA FrameV.zero) T))) :
    wpList P ops Q (⟨dst, .alloc T, ty, pos, af, none⟩ :: rest) a w := by
  obtain ⟨i, h1, h2⟩ := hT.info
  exact wc_value rfl (exec_alloc h1 h2 rfl) h
theorem wq_load_frame (hT : FrameT P T) {b : Nat} {f : FrameV} {fr : Nat × Nat} (hb : ∀ w, C w → w.heap[b]? = some (.cells (frameA f) e fr)) (hw : Region.wanted ⟨dst, .load T x, ty, pos, af, gd⟩ (yielded ops a.tmps) = true) (hx : a.eval x = .pointer (some ⟨b, 0, none⟩))
    (h : wpQuiet P ops C Qs rest (a.put dst (.agg (frameA f)))) : wpQuiet P ops C Qs (⟨dst, .load T x, ty, pos, af, gd⟩ :: rest) a :=
  wq_value hw (fun w hc => exec_load_frame hT rfl (hb w hc) hx) h
/-- 'copy' of bytes into a frame's page. -/
theorem wc_copy_page {U S2 : TypeId} (hT : ByteT P U e) {g : Nat} {f : FrameV} {t : TypeId} (hg : w.heap[g]? = some (.cells (frameA f) t)) {ad : Option Addr} {sCap : Nat} {p : Page} (hl : BytesAt w ad p.l)
    (hx : a.eval x = .slice (some ⟨g, 4, none⟩) 480 480) (hy : a.eval y = .slice ad 480 sCap)
    (h : wpList P ops Q rest (a.put dst (goInt 480)) (w.setRow g (frameA { f with page := p }))) :
    wpList P ops Q (⟨dst, .call { callee := .builtin .copy, args := #[x, y], argTypes := #[U, S2] }, ty, pos, af, none⟩ :: rest) a w := by
  obtain ⟨i, hi, _, hs, _⟩ := hT.info
  have hsz : (P.info? e).map (·.size) = some 1 := by rw [hi]; simp [hs]
  obtain ⟨b0, o0, rfl, _⟩ := hl 0 (p.l[0]'(by rw [p.h]; omega)) (List.getElem?_eq_getElem _)
  have hrun := run_copy_row (P := P) w U S2 ty e g 4 480 480 ⟨b0, o0, none⟩ 480 sCap (frameA f) t (p.l.map bv) hT.und hsz hg (by rw [List.length_map, p.h]; rfl) (by
    intro j v hj
    rw [List.getElem?_map] at hj
    obtain ⟨x, hx, rfl⟩ := Option.map_eq_some_iff.1 hj
    obtain ⟨b1, o1, e1, hc⟩ := hl j x hx
    cases e1
    rw [add_mk]; exact hc) (by rw [List.length_map, p.h, size_frameA]; omega) (by
    intro v hv
    obtain ⟨x, _, rfl⟩ := List.mem_map.1 hv
    rfl)
  have hrow : ((frameA f).toList.take 4 ++ p.l.map bv ++ (frameA f).toList.drop (4 + (p.l.map bv).length)).toArray = frameA { f with page := p } := by
    apply Array.toList_inj.1
    have h4 : (frameA f).toList.take 4 = [bv f.kind, .int .u64 f.gen, .int .u64 f.num, .int .u32 f.idx] := by simp [frameA]
    rw [h4, List.drop_of_length_le (by rw [Array.length_toList, size_frameA, List.length_map, p.h]; omega), List.append_nil]
    simp [frameA, secA, bytesA]
  rw [hrow, List.length_map, p.h] at hrun
  refine wc_value rfl ?_ h
  unfold execOp
  simp [resolve, invoke, builtin, hx, hy, hrun, Result.andThen]
theorem frame_set1 (f : FrameV) (n : Nat) : (frameA f).setIfInBounds 1 (.int .u64 n) = frameA { f with gen := n } := by
  unfold frameA; rw [Array.setIfInBounds_append_left (by simp)]; rfl
theorem frame_set2 (f : FrameV) (n : Nat) : (frameA f).setIfInBounds 2 (.int .u64 n) = frameA { f with num := n } := by
  unfold frameA; rw [Array.setIfInBounds_append_left (by simp)]; rfl
theorem frame_set3 (f : FrameV) (n : Nat) : (frameA f).setIfInBounds 3 (.int .u32 n) = frameA { f with idx := n } := by
  unfold frameA; rw [Array.setIfInBounds_append_left (by simp)]; rfl
end
end Go.Cib
namespace Go.Proofs.YthbaipljlbddcaaGreat
open Go.RowKit Go.Cib
theorem frameTT : FrameT Tryz.prog 105 := by
  refine ⟨frameT, ?_⟩
  have h : (Tryz.prog.info? 105).map (·.zero) = some (some (.agg (frameA FrameV.zero))) := by kernel_rfl
  obtain ⟨d, h1, h2⟩ := Option.map_eq_some_iff.1 h
  exact ⟨d, h1, h2⟩
end Go.Proofs.YthbaipljlbddcaaGreat
