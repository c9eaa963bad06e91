/-
  Small laws, for any program: structs written out of parts, of which one is a whole array.
-/
import Derived.Test.YthbaipljlbddcaaGreatReadF
namespace Go.Cib
open Go Go.RowKit
/-- The fields of a struct's type. -/
def fieldsOf (d : Option TypeDesc) : Array Field := match d with | some (.struct f) => f | _ => #[]
theorem fieldsOf_spec {d : Option TypeDesc} (h : (match d with | some (.struct _) => true | _ => false) = true) : d = some (.struct (fieldsOf d)) := by
  cases d with
  | none => cases h
  | some x => cases x <;> first | rfl | cases h
theorem foldl_put (off : Nat) : ∀ (l : List Value) (n : Nat) (cells : Array Value) (k : Nat), ((l.zipIdx n).foldl (fun (cs : Array Value) (q : Value × Nat) => cs.setIfInBounds (off + q.2) q.1) cells)[k]? =
    if off + n ≤ k ∧ k < off + n + l.length ∧ k < cells.size then l[k - off - n]? else cells[k]?
  | [], n, cells, k => by
    rw [if_neg (by simp; omega)]; rfl
  | x :: r, n, cells, k => by
    rw [List.zipIdx_cons, List.foldl_cons, foldl_put off r (n + 1) _ k]
    simp only [Array.size_setIfInBounds, List.length_cons, Array.getElem?_setIfInBounds]
    by_cases h1 : k = off + n
    · subst h1
      rw [if_neg (by omega)]
      by_cases h2 : off + n < cells.size
      · rw [if_pos rfl, if_pos h2, if_pos (by omega), show off + n - off - n = 0 by omega]
        rfl
      · rw [if_pos rfl, if_neg h2, if_neg (by omega), Array.getElem?_eq_none (by omega)]
    · by_cases h2 : off + (n + 1) ≤ k ∧ k < off + (n + 1) + r.length ∧ k < cells.size
      · rw [if_pos h2, if_pos (by omega), show k - off - n = (k - off - (n + 1)) + 1 by omega, List.getElem?_cons_succ]
      · rw [if_neg h2, if_neg (fun (e : off + n = k) => h1 e.symm), if_neg (by omega)]
theorem foldl_spl (off : Nat) (vs cells : Array Value) (h : off + vs.size ≤ cells.size) : vs.zipIdx.foldl (fun (cs : Array Value) (q : Value × Nat) => cs.setIfInBounds (off + q.2) q.1) cells = spl cells off vs := by
  apply Array.ext_getElem?
  intro k
  have e : vs.zipIdx.foldl (fun (cs : Array Value) (q : Value × Nat) => cs.setIfInBounds (off + q.2) q.1) cells = (vs.toList.zipIdx 0).foldl (fun (cs : Array Value) (q : Value × Nat) => cs.setIfInBounds (off + q.2) q.1) cells := by
    rw [← Array.foldl_toList, Array.toList_zipIdx]
  rw [e, foldl_put]
  simp only [spl, List.getElem?_toArray, Array.length_toList]
  have hl : (cells.toList.take off).length = off := by simp; omega
  by_cases h1 : k < off
  · rw [if_neg (by omega), List.append_assoc, List.getElem?_append_left (by omega), List.getElem?_take, if_pos h1, Array.getElem?_toList]
  · by_cases h2 : k < off + vs.size
    · rw [if_pos (by omega), List.append_assoc, List.getElem?_append_right (by omega), hl, List.getElem?_append_left (by simp; omega)]
      rfl
    · rw [if_neg (by omega), List.getElem?_append_right (by simp; omega)]
      simp only [List.length_append, hl, Array.length_toList, List.getElem?_drop, Array.getElem?_toList]
      congr 1
      omega
theorem fill_cons {place : Nat → Option (Nat × Nat)} {cells : Array Value} {i : Nat} {v : Value} {rest : List (Nat × Value)} {off size : Nat} (hp : place i = some (off, size)) (hs : v.cells.size = size) (hb : off + size ≤ cells.size) :
    Instr.fill place cells ((i, v) :: rest) = Instr.fill place (spl cells off v.cells) rest := by
  rw [Instr.fill, hp]
  simp only
  rw [if_neg (by simp; omega), ← foldl_spl off v.cells cells (by omega)]
theorem run_build_fill {P : Program} {T : TypeId} {fields : Array Field} {places : Array (Nat × Nat)} {z : Array Value} (hz : ∃ i, P.info? T = some i ∧ i.zero = some (.agg z)) (hu : P.underlying T = some (.struct fields))
    (hm : ∀ w, (Array.mapM (fun (f : Field) => Prod.mk f.offset <$> sizeOf f.type) fields : Sem (Array (Nat × Nat))).run P w = .ok places w) {parts : Array (Nat × Value)} {cells : Array Value} (hf : Instr.fill (places[·]?) z parts.toList = some cells) (w : World) :
    (Instr.build T parts).run P w = .ok (.agg cells) w := by
  obtain ⟨i, h1, h2⟩ := hz
  unfold Instr.build
  simp only [zeroValue, typeInfo, Sem.run_bind]
  simp [run_underlying hu, h1, h2, Value.cells]
  rw [hm]
  simp [hf]
theorem exec_build_fill {P : Program} {T : TypeId} {fields : Array Field} {places : Array (Nat × Nat)} {z : Array Value} (hz : ∃ i, P.info? T = some i ∧ i.zero = some (.agg z)) (hu : P.underlying T = some (.struct fields))
    (hm : ∀ w, (Array.mapM (fun (f : Field) => Prod.mk f.offset <$> sizeOf f.type) fields : Sem (Array (Nat × Nat))).run P w = .ok places w) {a : Act} {w : World} {dst : Option Tmp} {ty : TypeId} {pos : String} {af : Array Edge} {gd : Option (Nat × Bool)} {ps : Array (Nat × Operand)} {l : List (Nat × Value)} {cells : Array Value}
    (hl : ps.toList.map (fun q => (q.1, a.eval q.2)) = l) (hf : Instr.fill (places[·]?) z l = some cells) : (execOp a.eval ⟨dst, .build T ps, ty, pos, af, gd⟩).run P w = .ok (.value (.agg cells)) w := by
  have h := run_build_fill (P := P) (T := T) hz hu hm (parts := ps.map fun q => (q.1, a.eval q.2)) (cells := cells) (by rw [Array.toList_map, hl]; exact hf) w
  unfold execOp
  simp [h]
def framePlaces : Array (Nat × Nat) := #[(0, 1), (1, 1), (2, 1), (3, 1), (4, 480)]
def fillF (f : FrameV) (l : List (Nat × Value)) : Option (Array Value) := Instr.fill (framePlaces[·]?) (frameA f) l
theorem spl_one (c : Array Value) (off : Nat) (v : Value) (h : off < c.size) : spl c off #[v] = c.setIfInBounds off v := by
  rw [← foldl_spl off #[v] c (by simp; omega)]
  simp
theorem fillF_kind (f : FrameV) (k : UInt8) (l : List (Nat × Value)) : fillF f ((0, .int .u8 k.toNat) :: l) = fillF { f with kind := k } l := by
  unfold fillF
  rw [fill_cons (off := 0) (size := 1) rfl rfl (by rw [size_frameA]; omega)]
  have h : spl (frameA f) 0 (Value.int .u8 k.toNat).cells = frameA { f with kind := k } := (spl_one _ _ _ (by rw [size_frameA]; omega)).trans (frame_set0 f k)
  rw [h]
theorem fillF_gen (f : FrameV) (n : Nat) (l : List (Nat × Value)) : fillF f ((1, .int .u64 n) :: l) = fillF { f with gen := n } l := by
  unfold fillF
  rw [fill_cons (off := 1) (size := 1) rfl rfl (by rw [size_frameA]; omega)]
  have h : spl (frameA f) 1 (Value.int .u64 n).cells = frameA { f with gen := n } := (spl_one _ _ _ (by rw [size_frameA]; omega)).trans (frame_set1 f n)
  rw [h]
theorem fillF_idx (f : FrameV) (n : Nat) (l : List (Nat × Value)) : fillF f ((3, .int .u32 n) :: l) = fillF { f with idx := n } l := by
  unfold fillF
  rw [fill_cons (off := 3) (size := 1) rfl rfl (by rw [size_frameA]; omega)]
  have h : spl (frameA f) 3 (Value.int .u32 n).cells = frameA { f with idx := n } := (spl_one _ _ _ (by rw [size_frameA]; omega)).trans (frame_set3 f n)
  rw [h]
theorem spl_page (f : FrameV) (p : Page) : spl (frameA f) 4 (secA p) = frameA { f with page := p } := by
  apply Array.toList_inj.1
  have h4 : (frameA f).toList.take 4 = [bv f.kind, .int .u64 f.gen, .int .u64 f.num, .int .u32 f.idx] := by simp [frameA]
  simp only [spl]
  rw [h4, List.drop_of_length_le (by rw [Array.length_toList, size_frameA, size_secA]; omega), List.append_nil]
  simp [frameA]
theorem fillF_page (f : FrameV) (p : Page) (l : List (Nat × Value)) : fillF f ((4, .agg (secA p)) :: l) = fillF { f with page := p } l := by
  unfold fillF
  rw [fill_cons (off := 4) (size := 480) rfl (by exact size_secA p) (by rw [size_frameA]; omega)]
  rw [show spl (frameA f) 4 (Value.agg (secA p)).cells = frameA { f with page := p } from spl_page f p]
theorem fillF_nil (f : FrameV) : fillF f [] = some (frameA f) := rfl
/-- An image: a page's number, what is to stand there. -/
def imageA (i : Int) (p : Page) : Array Value := #[.int .i64 i] ++ secA p
theorem size_imageA (i : Int) (p : Page) : (imageA i p).size = 481 := by simp [imageA]
theorem imageA_one (i : Int) (p : Page) : ∀ v ∈ (imageA i p).toList, v.oneCell' = true := by
  intro v hv
  simp only [imageA, Array.toList_append, List.mem_append] at hv
  rcases hv with hv | hv
  · simp at hv; rw [hv]; rfl
  · exact secA_one _ v hv
def imagePlaces : Array (Nat × Nat) := #[(0, 1), (1, 480)]
def fillI (i : Int) (p : Page) (l : List (Nat × Value)) : Option (Array Value) := Instr.fill (imagePlaces[·]?) (imageA i p) l
theorem image_set0 (i j : Int) (p : Page) : (imageA i p).setIfInBounds 0 (.int .i64 j) = imageA j p := by
  unfold imageA; rw [Array.setIfInBounds_append_left (by simp)]; rfl
theorem spl_imagePage (i : Int) (p q : Page) : spl (imageA i p) 1 (secA q) = imageA i q := by
  apply Array.toList_inj.1
  have h4 : (imageA i p).toList.take 1 = [.int .i64 i] := by simp [imageA]
  simp only [spl]
  rw [h4, List.drop_of_length_le (by rw [Array.length_toList, size_imageA, size_secA]; omega), List.append_nil]
  simp [imageA]
theorem fillI_num (i j : Int) (p : Page) (l : List (Nat × Value)) : fillI i p ((0, .int .i64 j) :: l) = fillI j p l := by
  unfold fillI
  rw [fill_cons (off := 0) (size := 1) rfl rfl (by rw [size_imageA]; omega)]
  rw [show spl (imageA i p) 0 (Value.int .i64 j).cells = imageA j p from (spl_one _ _ _ (by rw [size_imageA]; omega)).trans (image_set0 i j p)]
theorem fillI_page (i : Int) (p q : Page) (l : List (Nat × Value)) : fillI i p ((1, .agg (secA q)) :: l) = fillI i q l := by
  unfold fillI
  rw [fill_cons (off := 1) (size := 480) rfl (by exact size_secA q) (by rw [size_imageA]; omega)]
  rw [show spl (imageA i p) 1 (Value.agg (secA q)).cells = imageA i q from spl_imagePage i p q]
theorem fillI_nil (i : Int) (p : Page) : fillI i p [] = some (imageA i p) := rfl
end Go.Cib
namespace Go.Proofs.YthbaipljlbddcaaGreat
open Go.RowKit Go.Cib
theorem frameFields : Tryz.prog.underlying 105 = some (.struct (fieldsOf (Tryz.prog.underlying 105))) := fieldsOf_spec (by kernel_rfl)
theorem framePl (w : World) : (Array.mapM (fun (f : Field) => Prod.mk f.offset <$> sizeOf f.type) (fieldsOf (Tryz.prog.underlying 105)) : Sem (Array (Nat × Nat))).run Tryz.prog w = .ok framePlaces w := by kernel_rfl
theorem exec_build_fr {a : Act} {w : World} {dst : Option Tmp} {ty : TypeId} {pos : String} {af : Array Edge} {gd : Option (Nat × Bool)} {ps : Array (Nat × Operand)} {l : List (Nat × Value)} {f : FrameV}
    (hf : fillF FrameV.zero l = some (frameA f)) (hl : ps.toList.map (fun q => (q.1, a.eval q.2)) = l) : (execOp a.eval ⟨dst, .build 105 ps, ty, pos, af, gd⟩).run Tryz.prog w = .ok (.value (.agg (frameA f))) w :=
  exec_build_fill frameTT.info frameFields framePl hl hf
theorem wc_build_fr {ops : Array Oper} {rest : List Oper} {a : Act} {w : World} {Q : Exit → Act → World → Prop} {dst : Option Tmp} {ty : TypeId} {pos : String} {af : Array Edge} {ps : Array (Nat × Operand)} {l : List (Nat × Value)} {f : FrameV}
    (hf : fillF FrameV.zero l = some (frameA f)) (hl : ps.toList.map (fun q => (q.1, a.eval q.2)) = l) (h : wpList Tryz.prog ops Q rest (a.put dst (.agg (frameA f))) w) : wpList Tryz.prog ops Q (⟨dst, .build 105 ps, ty, pos, af, none⟩ :: rest) a w :=
  wc_value rfl (exec_build_fr hf hl) h
theorem wq_build_fr {ops : Array Oper} {C : World → Prop} {Qs : Act → Prop} {rest : List Oper} {a : Act} {dst : Option Tmp} {ty : TypeId} {pos : String} {af : Array Edge} {gd : Option (Nat × Bool)} {ps : Array (Nat × Operand)} {l : List (Nat × Value)} {f : FrameV}
    (hf : fillF FrameV.zero l = some (frameA f)) (hw : Region.wanted ⟨dst, .build 105 ps, ty, pos, af, gd⟩ (yielded ops a.tmps) = true) (hl : ps.toList.map (fun q => (q.1, a.eval q.2)) = l) (h : wpQuiet Tryz.prog ops C Qs rest (a.put dst (.agg (frameA f)))) :
    wpQuiet Tryz.prog ops C Qs (⟨dst, .build 105 ps, ty, pos, af, gd⟩ :: rest) a :=
  wq_value hw (fun _ _ => exec_build_fr hf hl) h
theorem imgT : AggT Tryz.prog 68 481 := by
  refine ⟨?_, ?_⟩
  · have h : (Tryz.prog.underlying 68).map (fun d => match d with | .struct _ | .array _ _ => true | _ => false) = some true := by kernel_rfl
    obtain ⟨d, h1, h2⟩ := Option.map_eq_some_iff.1 h
    exact ⟨d, h1, h2⟩
  · have h : (Tryz.prog.info? 68).map (·.size) = some 481 := by kernel_rfl
    obtain ⟨d, h1, h2⟩ := Option.map_eq_some_iff.1 h
    exact ⟨d, h1, h2⟩
theorem imgZero : ∃ i, Tryz.prog.info? 68 = some i ∧ i.zero = some (.agg (imageA 0 Arr.zero)) := by
  have h : (Tryz.prog.info? 68).map (·.zero) = some (some (.agg (imageA 0 Arr.zero))) := by kernel_rfl
  obtain ⟨d, h1, h2⟩ := Option.map_eq_some_iff.1 h
  exact ⟨d, h1, h2⟩
theorem imgFields : Tryz.prog.underlying 68 = some (.struct (fieldsOf (Tryz.prog.underlying 68))) := fieldsOf_spec (by kernel_rfl)
theorem imgPl : ∀ w : World, (Array.mapM (fun (f : Field) => Prod.mk f.offset <$> sizeOf f.type) (fieldsOf (Tryz.prog.underlying 68)) : Sem (Array (Nat × Nat))).run Tryz.prog w = .ok imagePlaces w := fun _ => by kernel_rfl
theorem wc_build_img {ops : Array Oper} {rest : List Oper} {a : Act} {w : World} {Q : Exit → Act → World → Prop} {dst : Option Tmp} {ty : TypeId} {pos : String} {af : Array Edge} {ps : Array (Nat × Operand)} {l : List (Nat × Value)} {i : Int} {p : Page}
    (hf : fillI 0 Arr.zero l = some (imageA i p)) (hl : ps.toList.map (fun q => (q.1, a.eval q.2)) = l) (h : wpList Tryz.prog ops Q rest (a.put dst (.agg (imageA i p))) w) : wpList Tryz.prog ops Q (⟨dst, .build 68 ps, ty, pos, af, none⟩ :: rest) a w :=
  wc_value rfl (exec_build_fill imgZero imgFields imgPl hl hf) h
end Go.Proofs.YthbaipljlbddcaaGreat
