/-
  Small laws, for any program: a region whose order is open, that ends in a store: the reads ahead of it walked once, in the text's order, in each of two classes of worlds.
-/
import Derived.Test.YtkjgbhpnlgcinaaGreatDoorMQ
import Derived.Test.YtkjgbhpnlgcinaaGreatDoorMR2
import Derived.Test.YtkjgbhpnlgcinaaGreatDoorMW3
namespace Go.Cib
open Go Go.RowKit
section
variable {P : Program} {n : Nat} {Q : Exit → Act → World → Prop}
theorem headB_mono {ops : Array Oper} {k : Nat} (h : headB .any ops n = true) (hk : k ≤ n) : headB .any ops k = true := by
  unfold headB at h ⊢
  rw [List.all_eq_true] at h ⊢
  intro i hi
  have h1 := h i (List.mem_range.2 (by have := List.mem_range.1 hi; omega))
  split at h1
  · exact h1
  · rename_i o ho
    simp only [Bool.and_eq_true, List.all_eq_true, Array.all_eq_true_iff_forall_mem] at h1 ⊢
    obtain ⟨⟨h2, h3⟩, h4⟩ := h1
    refine ⟨⟨h2, fun t ht j hj => h3 t ht j (List.mem_range.2 (by have := List.mem_range.1 hj; omega))⟩, ?_⟩
    cases hd : o.dst with
    | none => rfl
    | some d =>
      simp only [hd, List.all_eq_true] at h4 ⊢
      exact fun j hj => h4 j (List.mem_range.2 (by have := List.mem_range.1 hj; omega))
theorem headOf_skip {ops : Array Oper} {k t : Nat} (hd : (ops[k]?).bind (·.dst) = none) : headOf ops (k + 1) t = headOf ops k t := by
  unfold headOf
  rw [List.range_succ, List.find?_append]
  have : ([k].find? fun j => ((ops[j]?).bind (·.dst)) == some t) = none := by simp [hd]
  rw [this, Option.or_none]
/-- The law. -/
theorem wp_region_walk_one {id : Nat} {a : Act} {w : World} {l : List Oper} (k : Nat) (A1 : Act) (Inv : Bool → World → Prop) (hm : P.follows .mixedOrders = true) (hB : invB l.toArray (k + 1) = true) (hd : (l.toArray[k]?).bind (·.dst) = none)
    {N : Nat} (hN : a.tmps.size = N) (hdst : ((List.range k).all fun i => match (l.toArray[i]?).bind (·.dst) with | some d => decide (d < N) | none => false) = true) (h0 : Inv false w.drew) (h : ∀ b, wpQuiet P l.toArray (Inv b) (fun a1 => a1 = A1) (l.take k) a)
    (once : ∀ o w, l[k]? = some o → Inv false w → Region.wanted o (yielded l.toArray A1.tmps) = true ∧ StpR P (fun u w' => u = undef ∧ Inv true w') ((execOp A1.eval o).run P w)) (tail : ∀ w', Inv true w' → wpList P l.toArray Q (l.drop (k + 1)) A1 w') :
    (Code.region id l.toArray true).wp P Q a w := by
  have hB' := hB
  simp only [invB, Bool.and_eq_true, Bool.or_eq_true, decide_eq_true_eq] at hB'
  obtain ⟨⟨⟨⟨hsel, hn⟩, hsink⟩, hhead⟩, hseq⟩ := hB'
  have hn' : k + 1 ≤ l.length := by simpa using hn
  have hheadk := headB_mono hhead (Nat.le_succ k)
  have hst : Agree l.toArray k (fun _ => undef) a (listedN l.toArray.size 0) a := by
    rw [← listedN_zero]; exact Agree.start _ _ _ _ _
  have key : ∀ b, ∃ vs, Agree l.toArray k vs a (listedN l.toArray.size k) A1 ∧ ∀ i, i < k → ∀ o, l[i]? = some o → StepOk P l.toArray A1 (Inv b) o (vs i) := fun b => by
    obtain ⟨vs, full, _, g2, rfl, g4⟩ := quiet_steps hsel hheadk (by omega) k 0 _ a (by omega) hst (by simpa using h b)
    exact ⟨vs, g2, fun i hi o ho => g4 i (by omega) hi o ho⟩
  obtain ⟨vf, af, sf⟩ := key false
  obtain ⟨vt, at_, st⟩ := key true
  have hlk : ∀ j, j < k → (listedN l.toArray.size k).getD j false = true := by
    intro j hj
    have : j < l.length := by omega
    simp [listedN, this, hj]
  have same : ∀ i, i < k → vf i = vt i := by
    intro i hi
    have h1 := List.all_eq_true.1 hdst i (List.mem_range.2 hi)
    obtain ⟨o, ho, _, _, hd2⟩ := headB_spec hheadk hi
    obtain ⟨d, hd1, hdN⟩ : ∃ d, (l.toArray[i]?).bind (·.dst) = some d ∧ d < N := by
      split at h1
      · rename_i d he; exact ⟨d, he, by simpa using h1⟩
      · cases h1
    have hod : o.dst = some d := by rw [ho] at hd1; exact hd1
    have hh := hd2 d hod
    have e1 := af.tmps d (hN.symm ▸ hdN)
    have e2 := at_.tmps d (hN.symm ▸ hdN)
    rw [hh] at e1 e2
    simp only [hlk i hi, if_true] at e1 e2
    rw [e1] at e2
    exact Option.some.inj e2
  have hag : Agree l.toArray (k + 1) (fun j => if j = k then undef else vf j) a (listedN l.toArray.size (k + 1)) A1 := by
    refine ⟨af.defers, af.size, fun t ht => ?_⟩
    rw [af.tmps t ht, headOf_skip hd]
    cases hh : headOf l.toArray k t with
    | none => rfl
    | some j =>
      have hj := (headOf_some hh).1
      have hjl : j < l.length := by omega
      have e1 : (listedN l.toArray.size (k + 1)).getD j false = true := by simp [listedN, hjl]; omega
      simp only [hlk j hj, e1, if_true]
      rw [if_neg (by omega)]
  refine wp_region_any hm ?_
  have inv0 : HeadInv .any l.toArray (k + 1) (Array.replicate l.toArray.size false) :=
    ⟨by simp, fun j oj _ hl => (by rw [getD_replicate_false] at hl; cases hl), fun t _ ht => getD_in (by simpa using ht) (getD_replicate_false _ _)⟩
  have hl0 : leftN (k + 1) (Array.replicate l.toArray.size false) = k + 1 := by
    unfold leftN
    rw [List.filter_eq_self.2 (fun j _ => by rw [getD_replicate_false]; rfl), List.length_range]
  have := any_one (P := P) (Q := Q) (Inv := Inv) k hB hag (fun i o b hi hne ho => by
    simp only [if_neg hne]
    cases b with
    | false => exact sf i (by omega) o ho
    | true => rw [same i (by omega)]; exact st i (by omega) o ho) (fun o w ho hi => by simp only [if_true]; exact once o w ho hi) (by omega) tail (k + 1) _ a _ hl0 inv0 (Agree.start _ _ _ _ _) (by rw [getD_replicate_false]; exact h0)
  rwa [show k + 1 + (l.toArray.size - (k + 1)) = l.toArray.size by omega] at this
theorem wp_region_walk_end {id : Nat} {a : Act} {w : World} {l : List Oper} (k : Nat) (Inv : Bool → World → Prop) (hm : P.follows .mixedOrders = true) (hB : invB l.toArray (k + 1) = true) (hd : (l.toArray[k]?).bind (·.dst) = none)
    {N : Nat} (hN : a.tmps.size = N) (hdst : ((List.range k).all fun i => match (l.toArray[i]?).bind (·.dst) with | some d => decide (d < N) | none => false) = true) (h0 : Inv false w.drew)
    (h : ∃ A1, (∀ b, wpQuiet P l.toArray (Inv b) (fun a1 => a1 = A1) (l.take k) a) ∧ (∀ o w, l[k]? = some o → Inv false w → Region.wanted o (yielded l.toArray A1.tmps) = true ∧ StpR P (fun u w' => u = undef ∧ Inv true w') ((execOp A1.eval o).run P w)) ∧ (∀ w', Inv true w' → wpList P l.toArray Q (l.drop (k + 1)) A1 w')) :
    (Code.region id l.toArray true).wp P Q a w := by
  obtain ⟨A1, h1, h2, h3⟩ := h
  exact wp_region_walk_one k A1 Inv hm hB hd hN hdst h0 h1 h2 h3
end
end Go.Cib
/-
  The frame at a place of the log: package wal's at.
-/
namespace Go.Cib
open Go Go.RowKit
theorem res_cell_two {P : Program} {fn : Func} {p t u : Tmp} {T : TypeId} {n : Nat} (hT : AggT P T n) (h : fn.results = #[.cell p T, .tmp t, .tmp u]) (tmps : Array Value) {w : World} {b : Nat} {c : Array Value} {e : TypeId} {fr : Nat × Nat}
    (hp : tmps.getD p undef = .pointer (some ⟨b, 0, none⟩)) (hb : w.heap[b]? = some (.cells c e fr)) (hc : c.size = n) : (results fn tmps).run P w = .ok (.tuple #[.agg c, tmps.getD t undef, tmps.getD u undef]) w := by
  have hl := run_loadVar_agg (P := P) hT w b 0 c e fr hb (by omega)
  rw [Nat.zero_add, ← hc, Array.extract_size] at hl
  have hp' : tmps[p]?.getD undef = .pointer (some ⟨b, 0, none⟩) := by simpa using hp
  simp [results, h, hp', asAddr, hl]
theorem frame_cell {w : World} {b : Nat} {f : FrameV} {e : TypeId} {fr : Nat × Nat} (h : w.heap[b]? = some (.cells (frameA f) e fr)) :
    w.cell? ⟨b, 0, none⟩ = some (.int .u8 f.kind.toNat) ∧ w.cell? ⟨b, 1, none⟩ = some (.int .u64 f.gen) ∧ w.cell? ⟨b, 2, none⟩ = some (.int .u64 f.num) ∧ w.cell? ⟨b, 3, none⟩ = some (.int .u32 f.idx) := by
  refine ⟨?_, ?_, ?_, ?_⟩
  all_goals (rw [cell_of_row w b _ _ _ _ h]; unfold frameA; rw [Array.getElem?_append_left (by simp)]; rfl)
end Go.Cib
namespace Go.Proofs.YtkjgbhpnlgcinaaGreatDoor
open Go.RowKit Go.Cib
/-- A disk that is alive reads. -/
theorem read_alive {D : DiskS} (hd : D.dead = false) {i : Nat} (hi : i < D.lasts.length) : D.read (i : Int) = (D.at_ (i : Int), 0) := by
  have hm : D.may (i : Int) = 0 := by unfold DiskS.may; rw [if_neg (by simp [hd]), if_neg (by omega), if_neg (by omega)]
  unfold DiskS.read
  rw [if_pos hm]

set_option maxRecDepth 20000 in
set_option maxHeartbeats 2000000 in
theorem at_any {w : World} {g d L M V : Nat} {S : LogS} (h : LogAt w g d L M V S) (hd : S.disk.dead = false) (hs : 2 + S.log ≤ S.disk.lasts.length) (place : Nat) (hp : place ≤ 100000) (kind : UInt8) :
    Calls Tryz.prog 120 #[.pointer (some ⟨g, 0, none⟩), .int .i64 place, .int .u8 kind.toNat] w fun e w' =>
      e = .returned (.tuple #[.agg (frameA (S.atF place)), .bool (S.atOk place kind), .int .i64 0]) ∧ Tch [] w w' := by
  obtain ⟨W, hW⟩ : ∃ W, w.alloc (.cells (frameA FrameV.zero) 155) = W := ⟨_, rfl⟩
  have tW : Tch [] w W := by rw [← hW]; exact (Tch.refl _ _).alloc _
  have bW : W.heap[w.heap.size]? = some (.cells (frameA FrameV.zero) 155) := by rw [← hW]; exact heap_alloc_new _ _
  have hWs : w.heap.size < W.heap.size := lt_of_heap bW
  have h1 := h.touch tW (by simp) (by simp) (by simp) (by simp) (by simp)
  have c1 := h1.cell 1 rfl
  have c0 := h1.cell 0 rfl
  have HW := Lib.hid hW
  have TW := Lib.hid tW
  have BW := Lib.hid bW
  have H1 := Lib.hid h1
  clear hW tW bW h1 h
  by_cases hpl : place < S.log
  · have hpl' : (place : Int) < S.log := by omega
    obtain ⟨s, hsx⟩ : ∃ s, S.disk.at_ ((2 + place : Nat) : Int) = s := ⟨_, rfl⟩
    obtain ⟨f, hf⟩ : ∃ f, parse s = f := ⟨_, rfl⟩
    have hr : S.disk.read (2 + place) = (s, 0) := by
      have := read_alive hd (i := 2 + place) (by omega)
      rw [hsx] at this
      exact this
    have eF : S.atF place = f := by unfold LogS.atF; rw [if_pos hpl, hsx, hf]
    have eO : S.atOk place kind = (decide (f.sector = s) && decide (f.kind = kind) && decide (f.gen = S.gen) && decide (f.num = S.records)) := by
      unfold LogS.atOk
      rw [eF, hsx, hf, decide_eq_true hpl, Bool.true_and]
    have hfo : f.Ok := hf ▸ parse_ok s
    have EF := Lib.hid eF
    have EO := Lib.hid eO
    have HR := Lib.hid hr
    have HF := Lib.hid hf
    have WP : wrap64 (2 + (place : Int)) = 2 + place := by unfold wrap64; omega
    clear eF eO hr hf hsx
    go_enter Tryz.func120, Tryz.ntmps120
    go_upto_region 1 with ((with_reducible refine wc_alloc_frame frameTT ?_); go_frame)
    rw [HW.out]
    go_upto_region 6 with (first | (go_at_call 75; refine (read_any H1.out.hD _).mono ?_; rintro e w2 ⟨rfl, q1⟩; rw [HR.out]; have T2 := Lib.hid q1; clear q1) | ((with_reducible refine wc_alloc_arr secT ?_); go_frame; (try simp only [World.size_alloc])) | ((with_reducible apply wc_store_new secT); exact rfl; exact rfl; go_frame))
    obtain ⟨w3, hw3⟩ : ∃ w3, w2.alloc (.cells (secA s) 124) = w3 := ⟨_, rfl⟩
    have HW3 := Lib.hid hw3
    have b3 : Hid (w3.heap[w2.heap.size]? = some (.cells (secA s) 124)) := by show _ = _; rw [← hw3]; exact heap_alloc_new _ _
    have T3 : Hid (Tch [] W w3) := by show Tch _ _ _; rw [← hw3]; exact T2.out.alloc _
    rw [hw3]
    clear hw3 c1 c0
    go_upto_region 7 with (first | ((with_reducible apply wc_load_var secT b3.out); exact rfl; go_frame) | (go_at_call 109; refine (wread_any s _).mono ?_; rintro e w4 ⟨rfl, q1⟩; rw [HF.out]; have T4 := Lib.hid q1; clear q1) | ((with_reducible refine wc_alloc_frame frameTT ?_); go_frame) | ((with_reducible apply wc_store_frame frameTT (heap_alloc_new w4 (.cells (frameA FrameV.zero) 155)) (g := f)); exact rfl; exact rfl; go_frame; rw [setRow_alloc_new]))
    obtain ⟨F, hF⟩ : ∃ F, w4.heap.size = F := ⟨_, rfl⟩
    obtain ⟨W5, hW5⟩ : ∃ W5, w4.alloc (.cells (frameA f) 155) = W5 := ⟨_, rfl⟩
    have b5 : W5.heap[F]? = some (.cells (frameA f) 155) := by rw [← hW5, ← hF]; exact heap_alloc_new _ _
    have t5 : Tch [] W W5 := by rw [← hW5]; exact ((T3.out.trans T4.out)).alloc _
    have hFw : w.heap.size < F := by have h1 := T3.out.size; have h2 := T4.out.size; omega
    have bR5 := t5.heap BW.out (by simp)
    obtain ⟨W6, hW6⟩ : ∃ W6, W5.setRow w.heap.size (frameA f) = W6 := ⟨_, rfl⟩
    have t56 : Tch [w.heap.size] W5 W6 := by rw [← hW6]; exact (Tch.refl _ _).setRow (.inl (by simp)) _
    have bF6 := t56.heap b5 (by simp; omega)
    have b6 : W6.heap[w.heap.size]? = some (.cells (frameA f) 155) := by rw [← hW6]; exact setRow_heap _ _ _ _ _ _ bR5
    have h5 := H1.out.touch t5 (by simp) (by simp) (by simp) (by simp) (by simp)
    have hgw : g < w.heap.size := by
      have hg1 := lt_of_heap H1.out.hg
      have hg2 : W.heap.size = w.heap.size + 1 := by rw [← HW.out]; simp
      rcases Nat.lt_or_ge g w.heap.size with hlt | hge
      · exact hlt
      · exfalso
        have hgeq : g = w.heap.size := by omega
        have hh := H1.out.hg
        rw [hgeq, BW.out] at hh
        have := congrArg (fun o => match o with | some (Obj.cells c _ _) => c.size | _ => 0) hh
        simp [size_frameA] at this
    have g56 : ∀ j : Nat, W6.cell? ⟨g, j, none⟩ = W5.cell? ⟨g, j, none⟩ := fun j => World.cell?_of_block (w := W5) (t56.block g (lt_of_heap h5.hg) (by simp; omega))
    obtain ⟨q0, q1, q2, _⟩ := frame_cell b5
    obtain ⟨r0, r1, r2, _⟩ := frame_cell bF6
    have CC : Hid (∀ b : Bool, (cond b W6 W5).cell? ⟨F, 0, none⟩ = some (.int .u8 f.kind.toNat) ∧ (cond b W6 W5).cell? ⟨F, 1, none⟩ = some (.int .u64 f.gen) ∧ (cond b W6 W5).cell? ⟨F, 2, none⟩ = some (.int .u64 f.num) ∧
        (cond b W6 W5).cell? ⟨g, 3, none⟩ = some (.int .u64 S.gen) ∧ (cond b W6 W5).cell? ⟨g, 5, none⟩ = some (.int .u64 S.records) ∧ (cond b W6 W5).heap[F]? = some (.cells (frameA f) 155)) := fun b => by
      cases b
      · exact ⟨q0, q1, q2, h5.cell 3 rfl, h5.cell 5 rfl, b5⟩
      · exact ⟨r0, r1, r2, (g56 3).trans (h5.cell 3 rfl), (g56 5).trans (h5.cell 5 rfl), bF6⟩
    have B5 : Hid (∀ n, (W5.drewN n).heap[w.heap.size]? = some (.cells (frameA FrameV.zero) 155)) := fun n => bR5
    have B6 : Hid (∀ n, (W6.drewN n).heap[w.heap.size]? = some (.cells (frameA f) 155)) := fun n => b6
    have H6 := Lib.hid hW6
    have T6 : Hid (Tch [] w W6) := tch_own (TW.out.trans t5) t56 (by simp)
    have HFF := Lib.hid hF
    have HW5 := Lib.hid hW5
    rw [hF, hW5]
    clear hF hW5 b5 t5 bR5 hW6 t56 bF6 b6 h5 g56 q0 q1 q2 r0 r1 r2 b3 HW3 T3 T4 T2
    by_cases h1 : f.sector = s
    · by_cases h2 : f.kind = kind
      · by_cases h3 : f.gen = S.gen
        · by_cases h4 : f.num = S.records
          · have p1 : decide (f.sector = s) = true := by simp [h1]
            rw [p1]
            have p2 : ((f.kind.toNat : Int) == kind.toNat) = true := by simp [h2]
            have p3 : ((f.gen : Int) == S.gen) = true := by simp [h3]
            have p4 : ((f.num : Int) == S.records) = true := by simp [h4]
            (try have G1 := Lib.hid h1); (try have G2 := Lib.hid h2); (try have G3 := Lib.hid h3); (try have G4 := Lib.hid h4); (try clear h4); (try clear h3); (try clear h2); (try clear h1); clear p1
            refine wp_region_walk_end 26 (fun b w' => ∃ n, w' = World.drewN (cond b W6 W5) n) (by kernel_rfl) (by kernel_rfl) rfl (N := 65) rfl (by kernel_rfl) ⟨1, rfl⟩ ?_; apply Exists.intro; refine ⟨?_, ?_, ?_⟩
            ·
              intro b
              have k0 := (CC.out b).1
              have k1 := (CC.out b).2.1
              have k2 := (CC.out b).2.2.1
              have k3 := (CC.out b).2.2.2.1
              have k5 := (CC.out b).2.2.2.2.1
              have KF : Hid (∀ w', (∃ n, w' = World.drewN (cond b W6 W5) n) → w'.heap[F]? = some (.cells (frameA f) 155)) := fun w' ⟨n, hn⟩ => by subst hn; exact (CC.out b).2.2.2.2.2
              simp only [List.take_succ_cons, List.take_zero]
              (repeat (first | ((with_reducible refine wq_load_frame frameTT KF.out ?_ ?_ ?_); exact rfl; exact rfl; go_frame) | go_big_quiet_step (fail)))
              refine wpQuiet_nil ?_
              exact rfl
            ·
              intro o W ho hW
              simp only [List.getElem?_cons_zero, List.getElem?_cons_succ, Option.some.injEq] at ho
              subst ho
              obtain ⟨n, rfl⟩ := hW
              refine ⟨rfl, ?_⟩
              exact stpR_skip (exec_store_frame (g := f) frameTT rfl (B5.out n) rfl rfl) ⟨rfl, n, by rw [← H6.out]; rfl⟩
            ·
              rintro wZ ⟨n, rfl⟩
              simp only [cond_true, List.drop_succ_cons, List.drop_zero]
              go_wp2_with fail
              refine bodyPost_ret (res_cell_two frameT rfl _ rfl (B6.out n) (size_frameA _)) rfl ?_
              rw [EF.out, EO.out]
              refine ⟨by simp [G1.out, G2.out, G3.out, G4.out], ?_⟩
              exact T6.out.trans (tch_drewN W6 n)
          · have p1 : decide (f.sector = s) = true := by simp [h1]
            rw [p1]
            have p2 : ((f.kind.toNat : Int) == kind.toNat) = true := by simp [h2]
            have p3 : ((f.gen : Int) == S.gen) = true := by simp [h3]
            have p4 : ((f.num : Int) == S.records) = false := by simp; omega
            (try have G1 := Lib.hid h1); (try have G2 := Lib.hid h2); (try have G3 := Lib.hid h3); (try have G4 := Lib.hid h4); (try clear h4); (try clear h3); (try clear h2); (try clear h1); clear p1
            refine wp_region_walk_end 26 (fun b w' => ∃ n, w' = World.drewN (cond b W6 W5) n) (by kernel_rfl) (by kernel_rfl) rfl (N := 65) rfl (by kernel_rfl) ⟨1, rfl⟩ ?_; apply Exists.intro; refine ⟨?_, ?_, ?_⟩
            ·
              intro b
              have k0 := (CC.out b).1
              have k1 := (CC.out b).2.1
              have k2 := (CC.out b).2.2.1
              have k3 := (CC.out b).2.2.2.1
              have k5 := (CC.out b).2.2.2.2.1
              have KF : Hid (∀ w', (∃ n, w' = World.drewN (cond b W6 W5) n) → w'.heap[F]? = some (.cells (frameA f) 155)) := fun w' ⟨n, hn⟩ => by subst hn; exact (CC.out b).2.2.2.2.2
              simp only [List.take_succ_cons, List.take_zero]
              (repeat (first | ((with_reducible refine wq_load_frame frameTT KF.out ?_ ?_ ?_); exact rfl; exact rfl; go_frame) | go_big_quiet_step (fail)))
              refine wpQuiet_nil ?_
              exact rfl
            ·
              intro o W ho hW
              simp only [List.getElem?_cons_zero, List.getElem?_cons_succ, Option.some.injEq] at ho
              subst ho
              obtain ⟨n, rfl⟩ := hW
              refine ⟨rfl, ?_⟩
              exact stpR_skip (exec_store_frame (g := f) frameTT rfl (B5.out n) rfl rfl) ⟨rfl, n, by rw [← H6.out]; rfl⟩
            ·
              rintro wZ ⟨n, rfl⟩
              simp only [cond_true, List.drop_succ_cons, List.drop_zero]
              go_wp2_with fail
              refine bodyPost_ret (res_cell_two frameT rfl _ rfl (B6.out n) (size_frameA _)) rfl ?_
              rw [EF.out, EO.out]
              refine ⟨by simp [G1.out, G2.out, G3.out, G4.out], ?_⟩
              exact T6.out.trans (tch_drewN W6 n)
        · have p1 : decide (f.sector = s) = true := by simp [h1]
          rw [p1]
          have p2 : ((f.kind.toNat : Int) == kind.toNat) = true := by simp [h2]
          have p3 : ((f.gen : Int) == S.gen) = false := by simp; omega
          (try have G1 := Lib.hid h1); (try have G2 := Lib.hid h2); (try have G3 := Lib.hid h3); (try have G4 := Lib.hid h4); (try clear h4); (try clear h3); (try clear h2); (try clear h1); clear p1
          refine wp_region_walk_end 26 (fun b w' => ∃ n, w' = World.drewN (cond b W6 W5) n) (by kernel_rfl) (by kernel_rfl) rfl (N := 65) rfl (by kernel_rfl) ⟨1, rfl⟩ ?_; apply Exists.intro; refine ⟨?_, ?_, ?_⟩
          ·
            intro b
            have k0 := (CC.out b).1
            have k1 := (CC.out b).2.1
            have k2 := (CC.out b).2.2.1
            have k3 := (CC.out b).2.2.2.1
            have k5 := (CC.out b).2.2.2.2.1
            have KF : Hid (∀ w', (∃ n, w' = World.drewN (cond b W6 W5) n) → w'.heap[F]? = some (.cells (frameA f) 155)) := fun w' ⟨n, hn⟩ => by subst hn; exact (CC.out b).2.2.2.2.2
            simp only [List.take_succ_cons, List.take_zero]
            (repeat (first | ((with_reducible refine wq_load_frame frameTT KF.out ?_ ?_ ?_); exact rfl; exact rfl; go_frame) | go_big_quiet_step (fail)))
            refine wpQuiet_nil ?_
            exact rfl
          ·
            intro o W ho hW
            simp only [List.getElem?_cons_zero, List.getElem?_cons_succ, Option.some.injEq] at ho
            subst ho
            obtain ⟨n, rfl⟩ := hW
            refine ⟨rfl, ?_⟩
            exact stpR_skip (exec_store_frame (g := f) frameTT rfl (B5.out n) rfl rfl) ⟨rfl, n, by rw [← H6.out]; rfl⟩
          ·
            rintro wZ ⟨n, rfl⟩
            simp only [cond_true, List.drop_succ_cons, List.drop_zero]
            go_wp2_with fail
            refine bodyPost_ret (res_cell_two frameT rfl _ rfl (B6.out n) (size_frameA _)) rfl ?_
            rw [EF.out, EO.out]
            refine ⟨by simp [G1.out, G2.out, G3.out], ?_⟩
            exact T6.out.trans (tch_drewN W6 n)
      · have p1 : decide (f.sector = s) = true := by simp [h1]
        rw [p1]
        have p2 : ((f.kind.toNat : Int) == kind.toNat) = false := by
          simp only [beq_eq_false_iff_ne, ne_eq]
          intro e
          exact h2 (UInt8.toNat_inj.1 (by omega))
        (try have G1 := Lib.hid h1); (try have G2 := Lib.hid h2); (try have G3 := Lib.hid h3); (try have G4 := Lib.hid h4); (try clear h4); (try clear h3); (try clear h2); (try clear h1); clear p1
        refine wp_region_walk_end 26 (fun b w' => ∃ n, w' = World.drewN (cond b W6 W5) n) (by kernel_rfl) (by kernel_rfl) rfl (N := 65) rfl (by kernel_rfl) ⟨1, rfl⟩ ?_; apply Exists.intro; refine ⟨?_, ?_, ?_⟩
        ·
          intro b
          have k0 := (CC.out b).1
          have k1 := (CC.out b).2.1
          have k2 := (CC.out b).2.2.1
          have k3 := (CC.out b).2.2.2.1
          have k5 := (CC.out b).2.2.2.2.1
          have KF : Hid (∀ w', (∃ n, w' = World.drewN (cond b W6 W5) n) → w'.heap[F]? = some (.cells (frameA f) 155)) := fun w' ⟨n, hn⟩ => by subst hn; exact (CC.out b).2.2.2.2.2
          simp only [List.take_succ_cons, List.take_zero]
          (repeat (first | ((with_reducible refine wq_load_frame frameTT KF.out ?_ ?_ ?_); exact rfl; exact rfl; go_frame) | go_big_quiet_step (fail)))
          refine wpQuiet_nil ?_
          exact rfl
        ·
          intro o W ho hW
          simp only [List.getElem?_cons_zero, List.getElem?_cons_succ, Option.some.injEq] at ho
          subst ho
          obtain ⟨n, rfl⟩ := hW
          refine ⟨rfl, ?_⟩
          exact stpR_skip (exec_store_frame (g := f) frameTT rfl (B5.out n) rfl rfl) ⟨rfl, n, by rw [← H6.out]; rfl⟩
        ·
          rintro wZ ⟨n, rfl⟩
          simp only [cond_true, List.drop_succ_cons, List.drop_zero]
          go_wp2_with fail
          refine bodyPost_ret (res_cell_two frameT rfl _ rfl (B6.out n) (size_frameA _)) rfl ?_
          rw [EF.out, EO.out]
          refine ⟨by simp [G1.out, G2.out], ?_⟩
          exact T6.out.trans (tch_drewN W6 n)
    · have p1 : decide (f.sector = s) = false := by simp [h1]
      rw [p1]
      (try have G1 := Lib.hid h1); (try have G2 := Lib.hid h2); (try have G3 := Lib.hid h3); (try have G4 := Lib.hid h4); (try clear h4); (try clear h3); (try clear h2); (try clear h1); clear p1
      refine wp_region_walk_end 26 (fun b w' => ∃ n, w' = World.drewN (cond b W6 W5) n) (by kernel_rfl) (by kernel_rfl) rfl (N := 65) rfl (by kernel_rfl) ⟨1, rfl⟩ ?_; apply Exists.intro; refine ⟨?_, ?_, ?_⟩
      ·
        intro b
        have k0 := (CC.out b).1
        have k1 := (CC.out b).2.1
        have k2 := (CC.out b).2.2.1
        have k3 := (CC.out b).2.2.2.1
        have k5 := (CC.out b).2.2.2.2.1
        have KF : Hid (∀ w', (∃ n, w' = World.drewN (cond b W6 W5) n) → w'.heap[F]? = some (.cells (frameA f) 155)) := fun w' ⟨n, hn⟩ => by subst hn; exact (CC.out b).2.2.2.2.2
        simp only [List.take_succ_cons, List.take_zero]
        (repeat (first | ((with_reducible refine wq_load_frame frameTT KF.out ?_ ?_ ?_); exact rfl; exact rfl; go_frame) | go_big_quiet_step (fail)))
        refine wpQuiet_nil ?_
        exact rfl
      ·
        intro o W ho hW
        simp only [List.getElem?_cons_zero, List.getElem?_cons_succ, Option.some.injEq] at ho
        subst ho
        obtain ⟨n, rfl⟩ := hW
        refine ⟨rfl, ?_⟩
        exact stpR_skip (exec_store_frame (g := f) frameTT rfl (B5.out n) rfl rfl) ⟨rfl, n, by rw [← H6.out]; rfl⟩
      ·
        rintro wZ ⟨n, rfl⟩
        simp only [cond_true, List.drop_succ_cons, List.drop_zero]
        go_wp2_with fail
        refine bodyPost_ret (res_cell_two frameT rfl _ rfl (B6.out n) (size_frameA _)) rfl ?_
        rw [EF.out, EO.out]
        refine ⟨by simp [G1.out], ?_⟩
        exact T6.out.trans (tch_drewN W6 n)
  · have hpl' : (S.log : Int) ≤ place := by omega
    have eF : S.atF place = FrameV.zero := by unfold LogS.atF; rw [if_neg hpl]; rfl
    have eO : S.atOk place kind = false := by unfold LogS.atOk; rw [decide_eq_false hpl]; simp
    have EF := Lib.hid eF
    have EO := Lib.hid eO
    have FILL : Hid (fillF FrameV.zero [] = some (frameA FrameV.zero)) := rfl
    clear eF eO
    go_enter Tryz.func120, Tryz.ntmps120
    go_upto_region 1 with ((with_reducible refine wc_alloc_frame frameTT ?_); go_frame)
    rw [HW.out]
    go_wp2_with (first | ((with_reducible refine wc_build_fr FILL.out ?_ ?_); exact rfl; go_frame) | ((with_reducible apply wc_store_frame frameTT BW.out (g := FrameV.zero)); exact rfl; exact rfl; go_frame))
    refine bodyPost_ret (res_cell_two frameT rfl _ rfl (setRow_heap _ _ _ _ _ _ BW.out) (size_frameA _)) rfl ?_
    rw [EF.out, EO.out]
    exact ⟨rfl, TW.out.setRow (.inr (Nat.le_refl _)) _⟩
end Go.Proofs.YtkjgbhpnlgcinaaGreatDoor
/-
  Small laws, for any program: lists of images that grow, pages stored into them; and: is a number in a list.
-/
namespace Go.Cib
open Go Go.RowKit
abbrev imgRows (ls : List (Int × Page)) : List (Array Value) := ls.map fun q => imageA q.1 q.2
theorem imgRows_size (ls : List (Int × Page)) : ∀ x ∈ imgRows ls, x.size = 481 := by
  intro x hx
  obtain ⟨q, _, rfl⟩ := List.mem_map.1 hx
  exact size_imageA _ _
/-- v is a slice of images of the call's own (blocks from B on). -/
def OwnImgs (w : World) (B : Nat) (e : TypeId) (v : Value) (ls : List (Int × Page)) : Prop := w.ownsRow B e 481 v ls.length (rowsA (imgRows ls)).toList
theorem ownImgs_nil (w : World) (B : Nat) (e : TypeId) : OwnImgs w B e (.slice none 0 0) [] := World.ownsRow_nil w B e 481
theorem OwnImgs.shape {w : World} {B : Nat} {e : TypeId} {v : Value} {ls : List (Int × Page)} (h : OwnImgs w B e v ls) :
    (v = .slice none 0 0 ∧ ls = []) ∨ ∃ g cap cur, v = .slice (some ⟨g, 0, none⟩) ls.length cap ∧ B ≤ g ∧ w.heap[g]? = some (.cells cur e) ∧ ls.length ≤ cap ∧ cap ≤ maxLen ∧ cur.size = cap * 481 ∧ cur.toList.take (ls.length * 481) = (rowsA (imgRows ls)).toList := by
  obtain ⟨h1, h2⟩ := h
  rcases h2 with ⟨rfl, h3⟩ | ⟨g, cap, cur, rfl, h3, h4, h5, h6, h7, h8⟩
  · exact .inl ⟨rfl, List.eq_nil_of_length_eq_zero h3⟩
  · exact .inr ⟨g, cap, cur, rfl, h3, h4, h5, h6, h7, h8⟩
theorem OwnImgs.kept {w w' : World} {B : Nat} {e : TypeId} {v : Value} {l : List (Int × Page)} {S : List Nat} (h : OwnImgs w B e v l) (ht : Tch S w w') (hn : ∀ g, v.ownBlock = some g → g ∉ S) : OwnImgs w' B e v l := by
  obtain ⟨h1, h2⟩ := h
  refine ⟨h1, ?_⟩
  rcases h2 with h2 | ⟨g, cap, cur, rfl, h3, h4, h5⟩
  · exact .inl h2
  · exact .inr ⟨g, cap, cur, rfl, h3, ht.heap h4 (hn g rfl), h5⟩
theorem OwnImgs.lt {w : World} {B : Nat} {e : TypeId} {v : Value} {l : List (Int × Page)} (h : OwnImgs w B e v l) : ∀ k ∈ v.ownBlock.toList, B ≤ k ∧ k < w.heap.size := by
  intro k hk
  rcases h.shape with ⟨rfl, _⟩ | ⟨g, cap, cur, rfl, hb, hg, _⟩
  · simp [Value.ownBlock] at hk
  · simp [Value.ownBlock] at hk
    subst hk
    exact ⟨hb, lt_of_heap hg⟩
theorem OwnImgs.base {w : World} {B B' : Nat} {e : TypeId} {v : Value} {l : List (Int × Page)} (h : OwnImgs w B e v l) (hB : B' ≤ B) : OwnImgs w B' e v l := by
  obtain ⟨h1, h2⟩ := h
  refine ⟨h1, ?_⟩
  rcases h2 with h2 | ⟨g, cap, cur, rfl, h3, h4⟩
  · exact .inl h2
  · exact .inr ⟨g, cap, cur, rfl, by omega, h4⟩
theorem take_extract {c : Array Value} {n i : Nat} {r : List Value} (h : c.toList.take n = r) (hi : i + 481 ≤ n) : c.extract i (i + 481) = r.toArray.extract i (i + 481) := by
  subst h
  apply Array.toList_inj.1
  rw [Array.toList_extract, Array.toList_extract, List.extract_eq_take_drop, List.extract_eq_take_drop]
  simp only
  rw [List.drop_take, List.take_take]
  congr 1
  omega
set_option maxRecDepth 20000 in
theorem OwnImgs.at_ {w : World} {B : Nat} {e : TypeId} {v : Value} {ls : List (Int × Page)} (h : OwnImgs w B e v ls) : ∃ a cap, v = .slice a ls.length cap ∧ ImgsAt w a ls ∧ ∀ b, a = some ⟨b, 0, none⟩ → B ≤ b := by
  rcases h.shape with ⟨rfl, rfl⟩ | ⟨g, cap, cur, rfl, hb, hg, hlc, _, hcs, htk⟩
  · exact ⟨none, 0, rfl, fun i q hi => by simp at hi, fun b hb => by cases hb⟩
  · refine ⟨some ⟨g, 0, none⟩, cap, rfl, fun i q hi => ?_, fun b hb2 => by cases hb2; exact hb⟩
    have hil := (List.getElem?_eq_some_iff.1 hi).1
    have hmul : i * 481 + 481 ≤ ls.length * 481 := by have := Nat.mul_le_mul_right 481 (show i + 1 ≤ ls.length from hil); omega
    have hcap : ls.length * 481 ≤ cur.size := by have := Nat.mul_le_mul_right 481 hlc; omega
    refine ⟨g, cur, e, _, rfl, hg, by omega, ?_⟩
    rw [take_extract htk hmul]
    exact rowsA_extract (imgRows_size ls) (by rw [List.getElem?_map, hi]; rfl)
theorem getElem?_spl (c vs : Array Value) (off k : Nat) (h : off + vs.size ≤ c.size) : (spl c off vs)[k]? = if off ≤ k ∧ k < off + vs.size then vs[k - off]? else c[k]? := by
  rw [← foldl_spl off vs c h]
  have e : vs.zipIdx.foldl (fun (cs : Array Value) (q : Value × Nat) => cs.setIfInBounds (off + q.2) q.1) c = (vs.toList.zipIdx 0).foldl (fun (cs : Array Value) (q : Value × Nat) => cs.setIfInBounds (off + q.2) q.1) c := by
    rw [← Array.foldl_toList, Array.toList_zipIdx]
  rw [e, foldl_put]
  simp only [Array.length_toList, Nat.add_zero]
  by_cases h1 : off ≤ k ∧ k < off + vs.size
  · rw [if_pos ⟨h1.1, h1.2, by omega⟩, if_pos h1]
    simp
  · rw [if_neg (fun hh => h1 ⟨hh.1, hh.2.1⟩), if_neg h1]
set_option maxRecDepth 20000 in
/-- A page laid into a row of images. -/
theorem spl_imgpage {ls : List (Int × Page)} {i : Nat} {q : Int × Page} (hi : ls[i]? = some q) (p : Page) : spl (rowsA (imgRows ls)) (i * 481 + 1) (secA p) = rowsA (imgRows (ls.set i (q.1, p))) := by
  have hil := (List.getElem?_eq_some_iff.1 hi).1
  have hsz := size_rowsA (imgRows_size ls)
  rw [List.length_map] at hsz
  have hmul : i * 481 + 481 ≤ ls.length * 481 := by have := Nat.mul_le_mul_right 481 (show i + 1 ≤ ls.length from hil); omega
  have e : imgRows (ls.set i (q.1, p)) = (imgRows ls).set i (imageA q.1 p) := by unfold imgRows; rw [List.map_set]
  rw [e, ← rowsA_spl (imgRows_size ls) (by simpa using hil) _ (size_imageA _ _)]
  apply Array.ext_getElem?
  intro k
  rw [getElem?_spl _ _ _ _ (by have := size_secA p; omega), getElem?_spl _ _ _ _ (by have := size_imageA q.1 p; omega)]
  simp only [size_secA, size_imageA]
  by_cases h1 : i * 481 + 1 ≤ k ∧ k < i * 481 + 1 + 480
  · rw [if_pos h1, if_pos (by omega)]
    unfold imageA
    rw [Array.getElem?_append_right (by simp; omega)]
    congr 1
  · rw [if_neg h1]
    by_cases h2 : i * 481 ≤ k ∧ k < i * 481 + 481
    · rw [if_pos h2]
      have hk : k = i * 481 + 0 := by omega
      rw [hk, rowsA_cell (imgRows_size ls) (x := imageA q.1 q.2) (by rw [List.getElem?_map, hi]; rfl) (by omega)]
      rw [show i * 481 + 0 - i * 481 = 0 by omega]
      unfold imageA
      rw [Array.getElem?_append_left (by simp), Array.getElem?_append_left (by simp)]
    · rw [if_neg h2]
section
variable {P : Program} {T S e : TypeId} {ops : Array Oper} {rest : List Oper} {a : Act} {w : World} {Q : Exit → Act → World → Prop} {dst : Option Tmp} {ty : TypeId} {pos : String} {af : Array Edge} {x y : Operand}
set_option maxRecDepth 20000 in
/-- 'l[i].Data = p'. -/
theorem wc_store_imgpage (hT : AggT P T 480) {B : Nat} {v : Value} {ls : List (Int × Page)} {i g len cap : Nat} {q : Int × Page} {p : Page} (h : OwnImgs w B e v ls) (hi : ls[i]? = some q) (hv : v = .slice (some ⟨g, 0, none⟩) len cap) (hx : a.eval x = .pointer (some ⟨g, i * 481 + 1, none⟩)) (hy : a.eval y = .agg (secA p))
    (h' : ∀ w', OwnImgs w' B e v (ls.set i (q.1, p)) → Tch [g] w w' → wpList P ops Q rest (a.put dst undef) w') : wpList P ops Q (⟨dst, .store T x y, ty, pos, af, none⟩ :: rest) a w := by
  have hil := (List.getElem?_eq_some_iff.1 hi).1
  have hmul : i * 481 + 481 ≤ ls.length * 481 := by have := Nat.mul_le_mul_right 481 (show i + 1 ≤ ls.length from hil); omega
  obtain ⟨h1, h2⟩ := h
  rcases h2 with ⟨h3, _⟩ | ⟨g', cap', cur, h3, h4, h5, h6, h7, h8, h9⟩
  · rw [hv] at h3; cases h3
  · rw [hv] at h3
    cases h3
    have hcap : ls.length * 481 ≤ cur.size := by have := Nat.mul_le_mul_right 481 h6; omega
    refine wc_done rfl (exec_store_agg hT rfl hx hy (size_secA p) (secA_one p) h5 (by omega)) (h' _ ?_ ((Tch.refl _ _).setRow (.inl (by simp)) _))
    have hs := size_spl cur (i * 481 + 1) (secA p) (by have := size_secA p; omega)
    have hsz := size_rowsA (imgRows_size ls)
    have hsz2 := size_rowsA (imgRows_size (ls.set i (q.1, p)))
    rw [List.length_map] at hsz hsz2
    refine ⟨by rw [Array.length_toList, hsz2], .inr ⟨g, cap, spl cur (i * 481 + 1) (secA p), by rw [hv, List.length_set], h4, setRow_heap _ _ _ _ _ _ h5, by rw [List.length_set]; exact h6, h7, by rw [hs]; exact h8, ?_⟩⟩
    rw [List.length_set, ← spl_imgpage hi p]
    have hx1 : cur.extract 0 (ls.length * 481) = rowsA (imgRows ls) := by
      apply Array.toList_inj.1
      rw [← h9, Array.toList_extract, List.extract_eq_take_drop]
      simp
    have := spl_extract (c := cur) (v := secA p) (off := i * 481 + 1) (m := ls.length * 481) (by have := size_secA p; omega) hcap
    rw [hx1] at this
    rw [← this, Array.toList_extract, List.extract_eq_take_drop]
    simp
set_option maxRecDepth 20000 in
/-- 'append(l, image)'. -/
theorem wc_append_img (hz : ∃ i, P.info? T = some i ∧ i.zero = some (.agg (imageA 0 Arr.zero)) ∧ i.size = 481 ∧ i.bytes ≤ 600) (hS : P.underlying S = some (.slice T)) {B : Nat} {v : Value} {ls : List (Int × Page)} (h : OwnImgs w B T v ls) (hB : B ≤ w.heap.size) (hl : ls.length ≤ 100000) {ar : Array Operand} {ts : Array TypeId} (har : ar = #[x, y]) (hts : ts = #[S, S]) (hx : a.eval x = v)
    {g : Nat} {q : Int × Page} {e : TypeId} (hy : a.eval y = .slice (some ⟨g, 0, none⟩) 1 1) (hg : w.heap[g]? = some (.cells (imageA q.1 q.2) e))
    (h' : ∀ v' w', OwnImgs w' B T v' (ls ++ [q]) → Tch v.ownBlock.toList w w' → wpList P ops Q rest (a.put dst v') w') : wpList P ops Q (⟨dst, .call { callee := .builtin .append, args := ar, argTypes := ts }, ty, pos, af, none⟩ :: rest) a w := by
  subst har hts
  obtain ⟨i, h1, h2, h3, h4⟩ := hz
  refine wpList_append_own w rfl x y S rfl B T i (.agg (imageA 0 Arr.zero)) 481 i.bytes hS h1 h2 h3 rfl (size_imageA _ _) (by decide) v ls.length (rowsA (imgRows ls)).toList hx h ⟨g, 0, none⟩ 1 1 (imageA q.1 q.2).toList hy (by simp [size_imageA]) ?_ ?_ ?_ ?_ hB ?_
  · intro j u hj
    rw [add_mk, Nat.zero_add, cell_of_row w g j _ _ _ hg]
    simpa using hj
  · exact imageA_one _ _
  · unfold maxLen; omega
  · have := Nat.mul_le_mul_left (ls.length + 1) h4
    omega
  · intro v' w' hown hgr _
    refine h' v' w' ?_ (Tch.of_grown hgr (fun k hk => by rw [hk]; simp))
    unfold OwnImgs
    have e1 : (rowsA (imgRows (ls ++ [q]))).toList = (rowsA (imgRows ls)).toList ++ (imageA q.1 q.2).toList := by
      unfold imgRows rowsA
      simp
    rw [e1, List.length_append, List.length_singleton]
    exact hown
end
end Go.Cib
/-
  The pages that a list names: package wal's listed.
-/
namespace Go.Cib
open Go Go.RowKit
section
variable {P : Program} {T S e : TypeId} {ops : Array Oper} {rest : List Oper} {a : Act} {w : World} {Q : Exit → Act → World → Prop} {C : World → Prop} {Qs : Act → Prop} {dst : Option Tmp} {ty : TypeId} {pos : String} {af : Array Edge} {x y : Operand} {gd : Option (Nat × Bool)}
theorem frame_page_ex (f : FrameV) : (frameA f).extract 4 (4 + 480) = secA f.page := by
  apply Array.toList_inj.1
  rw [Array.toList_extract, List.extract_eq_take_drop]
  have h1 : (frameA f).toList = [bv f.kind, .int .u64 f.gen, .int .u64 f.num, .int .u32 f.idx] ++ (secA f.page).toList := by simp [frameA]
  rw [h1, List.drop_left' (by rfl), List.take_of_length_le (by rw [Array.length_toList, size_secA]; omega)]
theorem exec_load_framepage (hT : AggT P T 480) {f : FrameV} {b : Nat} {e' : TypeId} {fr : Nat × Nat} {o : Oper} (ho : o.op = .load T x) (hb : w.heap[b]? = some (.cells (frameA f) e' fr)) (hx : a.eval x = .pointer (some ⟨b, 4, none⟩)) :
    (execOp a.eval o).run P w = .ok (.value (.agg (secA f.page))) w := by
  rw [exec_load_agg hT ho hx hb (by rw [size_frameA]; omega), frame_page_ex]
theorem wc_load_framepage (hT : AggT P T 480) {f : FrameV} {b : Nat} {e' : TypeId} {fr : Nat × Nat} (hb : w.heap[b]? = some (.cells (frameA f) e' fr)) (hx : a.eval x = .pointer (some ⟨b, 4, none⟩))
    (h : wpList P ops Q rest (a.put dst (.agg (secA f.page))) w) : wpList P ops Q (⟨dst, .load T x, ty, pos, af, none⟩ :: rest) a w :=
  wc_value rfl (exec_load_framepage hT rfl hb hx) h
theorem wq_load_framepage (hT : AggT P T 480) {f : FrameV} {b : Nat} {e' : TypeId} {fr : Nat × Nat} (hb : ∀ w, C w → w.heap[b]? = some (.cells (frameA f) e' fr)) (hw : Region.wanted ⟨dst, .load T x, ty, pos, af, gd⟩ (yielded ops a.tmps) = true) (hx : a.eval x = .pointer (some ⟨b, 4, none⟩))
    (h : wpQuiet P ops C Qs rest (a.put dst (.agg (secA f.page)))) : wpQuiet P ops C Qs (⟨dst, .load T x, ty, pos, af, gd⟩ :: rest) a :=
  wq_value hw (fun w hc => exec_load_framepage hT rfl (hb w hc) hx) h
theorem wc_slice_img (hz : ∃ i, P.info? T = some i ∧ i.zero = some (.agg (imageA 0 Arr.zero)) ∧ i.size = 481 ∧ i.bytes ≤ 600) (hS : P.underlying S = some (.slice T)) {n : Int} {p : Page} (hx : a.eval x = .agg (imageA n p))
    (h : wpList P ops Q rest (a.put dst (.slice (some ⟨w.heap.size, 0, none⟩) 1 1)) (w.alloc (.cells (imageA n p) T))) : wpList P ops Q (⟨dst, .buildSlice S 1 #[(0, x)], ty, pos, af, none⟩ :: rest) a w := by
  obtain ⟨i, h1, h2, h3, _⟩ := hz
  refine wc_value rfl ?_ h
  have hf := fill_one (c := (Array.range (1 * 481)).map (((Value.agg (imageA 0 Arr.zero)).cells)[· % ((Value.agg (imageA 0 Arr.zero)).cells).size]!)) (v := imageA n p) (m := 481) (by simp) (size_imageA n p)
  rw [Nat.one_mul] at hf
  generalize imageA n p = v at *
  generalize imageA 0 Arr.zero = z at *
  unfold execOp
  simp only [Instr.buildSlice, List.map_toArray, List.map_cons, List.map_nil, hx]
  simp [Sem.run_bind, run_underlying hS, sizeOf, typeInfo, zeroValue, h1, h2, h3, hf, newRow]
end
end Go.Cib
namespace Go.Proofs.YtkjgbhpnlgcinaaGreatDoor
open Go.RowKit Go.Cib
theorem imgInfo : ∃ i, Tryz.prog.info? 84 = some i ∧ i.zero = some (.agg (imageA 0 Arr.zero)) ∧ i.size = 481 ∧ i.bytes ≤ 600 := by
  have h : (Tryz.prog.info? 84).map (fun i => (i.zero, i.size, decide (i.bytes ≤ 600))) = some (some (.agg (imageA 0 Arr.zero)), 481, true) := by kernel_rfl
  obtain ⟨i, h1, h2⟩ := Option.map_eq_some_iff.1 h
  simp only [Prod.mk.injEq, decide_eq_true_eq] at h2
  exact ⟨i, h1, h2⟩
theorem imgsS : Tryz.prog.underlying 85 = some (.slice 84) := by kernel_rfl

set_option maxRecDepth 20000 in
set_option maxHeartbeats 400000 in
theorem index_any {w : World} {a : Option Addr} {cap : Nat} {l : List Nat} (h : NumsAt w a l) (x : Nat) (hl : l.length ≤ 1000) :
    Calls Tryz.prog 161 #[.slice a l.length cap, .int .u32 x] w fun e w' => (∃ r : Int, e = .returned (.int .i64 r) ∧ (x ∈ l → 0 ≤ r) ∧ (x ∉ l → r < 0)) ∧ w = w' := by
  obtain ⟨m, hm⟩ : ∃ m, l.length = m := ⟨_, rfl⟩
  rw [hm] at hl ⊢
  have HM := Lib.hid hm
  have HH := Lib.hid h
  clear hm h
  go_enter Tryz.func161, Tryz.ntmps161
  go_wp2_with fail
  go_loopg [8] m (fun q i wr => ∃ j, OnAt m i q j ∧ wr = w ∧ x ∉ l.take j)
  case atStart => exact ⟨0, ⟨Nat.zero_le _, rfl, rfl⟩, rfl, by simp⟩
  case round =>
    obtain ⟨j, ⟨hj, rfl, rfl⟩, rfl, hx⟩ := hrel
    have HX := Lib.hid hx
    clear hx
    by_cases hjm : j < m
    · obtain ⟨n, hn⟩ : ∃ n, l[j]? = some n := ⟨_, List.getElem?_eq_getElem (by rw [HM.out]; exact hjm)⟩
      obtain ⟨b, o, rfl, hc⟩ := HH.out j n hn
      have HN := Lib.hid hn
      clear hn
      by_cases hxn : x = n
      · have hb : ((x : Int) == n) = true := by simp [hxn]
        have HXN := Lib.hid hxn
        clear hxn
        go_wp2_with fail
        go_ret
        refine ⟨⟨_, rfl, fun _ => by omega, fun hnm => absurd (HXN.out ▸ List.mem_of_getElem? HN.out) hnm⟩, rfl⟩
      · have hb : ((x : Int) == n) = false := by simp; omega
        have HXN := Lib.hid hxn
        clear hxn
        go_wp2_with fail
        go_roundg (m - (j + 1))
        case measure => omega
        case rel =>
          refine ⟨j + 1, ⟨by omega, by go_num, rfl⟩, rfl, ?_⟩
          rw [List.take_add_one, HN.out]
          intro hm
          rcases List.mem_append.1 hm with h1 | h1
          · exact HX.out h1
          · simp at h1; exact HXN.out h1
    · have hfull : l.take j = l := List.take_of_length_le (by rw [HM.out]; omega)
      rw [hfull] at HX
      clear hfull
      go_wp2_with fail
      go_ret
      exact ⟨⟨_, rfl, fun hm => absurd hm HX.out, fun _ => by decide⟩, rfl⟩
set_option maxRecDepth 20000 in
set_option maxHeartbeats 400000 in
theorem contains_any {w : World} {a : Option Addr} {cap : Nat} {l : List Nat} (h : NumsAt w a l) (x : Nat) (hl : l.length ≤ 1000) :
    Calls Tryz.prog 147 #[.slice a l.length cap, .int .u32 x] w fun e w' => e = .returned (.bool (decide (x ∈ l))) ∧ w = w' := by
  have CI := Lib.hid (index_any (cap := cap) h x hl)
  obtain ⟨m, hm⟩ : ∃ m, l.length = m := ⟨_, rfl⟩
  rw [hm] at CI ⊢
  clear h hl hm
  by_cases hx : x ∈ l
  · have HX := Lib.hid hx
    clear hx
    go_enter Tryz.func147, Tryz.ntmps147
    go_wp2_with (go_at_call 161; refine CI.out.mono ?_; rintro e w' ⟨⟨r, rfl, q1, q2⟩, rfl⟩; have hr : 0 ≤ r := q1 HX.out; clear q1 q2)
    go_ret
    exact ⟨by rw [decide_eq_true HX.out]; first | rfl | (rw [← decide_eq_true hr]; rfl), rfl⟩
  · have HX := Lib.hid hx
    clear hx
    go_enter Tryz.func147, Tryz.ntmps147
    go_wp2_with (go_at_call 161; refine CI.out.mono ?_; rintro e w' ⟨⟨r, rfl, q1, q2⟩, rfl⟩; have hr : ¬ 0 ≤ r := (by have := q2 HX.out; omega); clear q1 q2)
    go_ret
    exact ⟨by rw [decide_eq_false HX.out]; first | rfl | (rw [← decide_eq_false (show ¬ 0 ≤ r by omega)]; rfl), rfl⟩
end Go.Proofs.YtkjgbhpnlgcinaaGreatDoor
/-
  The pages that a list names: package wal's listed.
-/
namespace Go.Cib
open Go Go.RowKit
theorem numAt_lt (p : Page) (i : Nat) : numAt p i < 4294967296 := by
  unfold numAt
  have h1 := beVal_lt ((p.l.drop (4 * i)).take 4)
  have h2 : ((p.l.drop (4 * i)).take 4).length ≤ 4 := by simp; omega
  have h3 := Nat.pow_le_pow_right (show 0 < 256 by decide) h2
  omega
theorem own_apart {w : World} {B B' : Nat} {e e' : TypeId} {v v' : Value} {l : List Value} {ls : List (Int × Page)} (h : OwnVals w B e v l) (h' : OwnImgs w B' e' v' ls) (hne : e' ≠ e) : ∀ g, v'.ownBlock = some g → g ∉ v.ownBlock.toList := by
  intro g hg
  rcases h'.shape with ⟨rfl, _⟩ | ⟨g', cap, cur, rfl, _, hb, _⟩
  · simp [Value.ownBlock] at hg
  · simp [Value.ownBlock] at hg
    subst hg
    exact h.ne hb hne
theorem own_apart' {w : World} {B B' : Nat} {e e' : TypeId} {v v' : Value} {l : List Value} {ls : List (Int × Page)} (h : OwnVals w B e v l) (h' : OwnImgs w B' e' v' ls) (hne : e' ≠ e) : ∀ g, v.ownBlock = some g → g ∉ v'.ownBlock.toList := by
  intro g hg hm
  exact own_apart h h' hne g (by simpa using hm) (by rw [hg]; simp)
end Go.Cib
namespace Go.Proofs.YtkjgbhpnlgcinaaGreatDoor
open Go.RowKit Go.Cib
/-- What the loop of listed has gathered. -/
structure LstR (W wr : World) (pages : Nat) (l : List Nat) (v6 v7 : Value) : Prop where
  nums : OwnVals wr W.heap.size 126 v6 (l.map fun (n : Nat) => .int .u32 (n : Int))
  imgs : OwnImgs wr W.heap.size 84 v7 (l.map fun (n : Nat) => ((n : Int), (Arr.zero : Page)))
  tch : Tch [] W wr
  lt : ∀ n ∈ l, n < pages
  nd : l.Nodup
set_option maxRecDepth 20000 in
theorem cf_numbers2 (args : Array Value) (w : World) : (callFunc 116 args).run Tryz.prog w = .ok (.enter 116 args) w := rfl

set_option maxRecDepth 20000 in
set_option maxHeartbeats 2000000 in
theorem listed_any {w : World} {g d L M V : Nat} {S : LogS} (h : LogAt w g d L M V S) (f : FrameV) (hidx : f.idx ≤ 120) :
    Calls Tryz.prog 121 #[.pointer (some ⟨g, 0, none⟩), .agg (frameA f)] w fun e w' => Tch [] w w' ∧ ∃ v, e = .returned (.tuple #[v, .bool (S.listed f)]) ∧
      (S.listed f = true → OwnImgs w' w.heap.size 84 v ((LogS.names f).map fun (n : Nat) => ((n : Int), (Arr.zero : Page)))) := by
  obtain ⟨W, hW⟩ : ∃ W, w.alloc (.cells (frameA f) 155) = W := ⟨_, rfl⟩
  have tW : Tch [] w W := by rw [← hW]; exact (Tch.refl _ _).alloc _
  have bW : W.heap[w.heap.size]? = some (.cells (frameA f) 155) := by rw [← hW]; exact heap_alloc_new _ _
  have h1 := h.touch tW (by simp) (by simp) (by simp) (by simp) (by simp)
  obtain ⟨_, _, _, c3⟩ := frame_cell bW
  obtain ⟨m, hm⟩ : ∃ m, f.idx = m := ⟨_, rfl⟩
  rw [hm] at c3 hidx
  have hwW : w.heap.size ≤ W.heap.size := tW.size
  have HW := Lib.hid hW
  have TW := Lib.hid tW
  have BW := Lib.hid bW
  have H1 := Lib.hid h1
  have HM := Lib.hid hm
  clear hW tW bW h1 h hm
  go_enter Tryz.func121, Tryz.ntmps121
  go_upto_region 1 with ((with_reducible refine wc_box_agg ?_ ?_); exact rfl; go_frame)
  rw [HW.out]
  go_wp2_with fail
  go_loopg [6, 7, 13] m (fun q v6 v7 i wr => ∃ j, OnAt m i q j ∧ LstR W wr S.pages ((List.range j).map (numAt f.page)) v6 v7)
  case atStart => exact ⟨0, ⟨Nat.zero_le _, rfl, rfl⟩, ⟨ownVals_nil _ _ _, ownImgs_nil _ _ _, Tch.refl _ _, by simp, by simp⟩⟩
  case round =>
    obtain ⟨j, ⟨hj, rfl, rfl⟩, hr⟩ := hrel
    have hwr := hr.tch.size
    have hlr := H1.out.touch hr.tch (by simp) (by simp) (by simp) (by simp) (by simp)
    have c2 := hlr.cell 2 rfl
    have bR := Lib.hid (hr.tch.heap BW.out (by simp))
    have HL := Lib.hid hlr
    have R := Lib.hid hr
    obtain ⟨na, ncap, hv6, hvals, _⟩ := hr.nums.vals
    have hlen : (((List.range j).map (numAt f.page)).map fun (n : Nat) => Value.int .u32 (n : Int)).length = j := by simp
    rw [hlen] at hv6
    have NA : Hid (NumsAt wr na ((List.range j).map (numAt f.page))) := fun i x hi => by
      obtain ⟨b, o, hb, hc⟩ := hvals i (.int .u32 x) (by rw [List.getElem?_map, hi]; rfl)
      exact ⟨b, o, hb, hc⟩
    clear hlr hvals hlen
    by_cases hjm : j < m
    · obtain ⟨n, hn⟩ : ∃ n, numAt f.page j = n := ⟨_, rfl⟩
      have hn32 : n < 4294967296 := by rw [← hn]; exact numAt_lt _ _
      have hnext : (List.range (j + 1)).map (numAt f.page) = (List.range j).map (numAt f.page) ++ [n] := by rw [List.range_succ, List.map_append, ← hn]; rfl
      have hnm : LogS.names f = (List.range j).map (numAt f.page) ++ (n :: ((List.range' (j + 1) (m - (j + 1))).map (numAt f.page))) := by
        unfold LogS.names
        rw [HM.out, List.range_eq_range', List.range_eq_range', ← hn]
        have : List.range' 0 m = List.range' 0 j ++ (j :: List.range' (j + 1) (m - (j + 1))) := by
          have e1 := List.range'_append_1 (s := 0) (m := j) (n := m - j)
          rw [show j + (m - j) = m by omega, Nat.zero_add] at e1
          rw [← e1]
          congr 1
          rw [show m - j = (m - (j + 1)) + 1 by omega, List.range'_succ]
        rw [this]
        simp
      have CP : Hid (Calls Tryz.prog 119 #[.agg (secA f.page), .int .i64 j] wr fun e w' => e = .returned (.int .u32 n) ∧ Tch [] wr w') := by
        rw [← hn]; exact pnumber_any f.page j (by omega) wr
      have HN := Lib.hid hn
      have HNX := Lib.hid hnext
      have HNM := Lib.hid hnm
      clear hn hnext hnm
      subst hv6
      by_cases hp : S.pages ≤ n
      · have hb : S.listed f = false := by
          unfold LogS.listed
          rw [decide_eq_false (fun hh => by have := hh n (by rw [HNM.out]; simp); omega)]; rfl
        have hp' : ((S.pages : Int) ≤ n) := by omega
        have HB := Lib.hid hb
        clear hb
        go_wp2_with (first | ((with_reducible apply wc_load_framepage pageT.agg bR.out); exact rfl; go_frame) | (go_at_call 119; refine CP.out.mono ?_; rintro e w2 ⟨rfl, q1⟩; have c22 := cell_old q1 c2; have T2 := Lib.hid q1; clear q1))
        go_ret2
        refine ⟨TW.out.trans (R.out.tch.trans T2.out), _, by rw [HB.out]; rfl, fun hh => ?_⟩
        rw [HB.out] at hh; cases hh
      by_cases hmem : n ∈ (List.range j).map (numAt f.page)
      · have hb : S.listed f = false := by
          unfold LogS.listed
          have : ¬ (LogS.names f).Nodup := by
            rw [HNM.out]
            intro hh
            exact (List.nodup_append.1 hh).2.2 n hmem n (by simp) rfl
          rw [decide_eq_false this]; simp
        have hp' : ¬ ((S.pages : Int) ≤ n) := by omega
        have HB := Lib.hid hb
        have CC : Hid (∀ w2, Tch [] wr w2 → Calls Tryz.prog 147 #[.slice na j ncap, .int .u32 n] w2 fun e w' => e = .returned (.bool true) ∧ w2 = w') := fun w2 t2 => by
          have := contains_any (cap := ncap) (NA.out.later t2) n (by simp; omega)
          rw [List.length_map, List.length_range, decide_eq_true hmem] at this
          exact this
        clear hb hmem
        go_wp2_with (first | ((with_reducible apply wc_load_framepage pageT.agg bR.out); exact rfl; go_frame) | (go_at_call 119; refine CP.out.mono ?_; rintro e w2 ⟨rfl, q1⟩; have c22 := cell_old q1 c2; have T2 := Lib.hid q1; clear q1) | (go_at_call 147; refine (CC.out _ T2.out).mono ?_; rintro e w3 ⟨rfl, rfl⟩))
        go_ret2
        refine ⟨TW.out.trans (R.out.tch.trans T2.out), _, by rw [HB.out]; rfl, fun hh => ?_⟩
        rw [HB.out] at hh; cases hh
      · have hp' : ¬ ((S.pages : Int) ≤ n) := by omega
        have HMEM := Lib.hid hmem
        have CC : Hid (∀ w2, Tch [] wr w2 → Calls Tryz.prog 147 #[.slice na j ncap, .int .u32 n] w2 fun e w' => e = .returned (.bool false) ∧ w2 = w') := fun w2 t2 => by
          have := contains_any (cap := ncap) (NA.out.later t2) n (by simp; omega)
          rw [List.length_map, List.length_range, decide_eq_false hmem] at this
          exact this
        clear hmem
        go_upto_region 9 with (first | ((with_reducible apply wc_load_framepage pageT.agg bR.out); exact rfl; go_frame) | (go_at_call 119; refine CP.out.mono ?_; rintro e w2 ⟨rfl, q1⟩; have c22 := cell_old q1 c2; have T2 := Lib.hid q1; clear q1) | (go_at_call 147; refine (CC.out _ T2.out).mono ?_; rintro e w3 ⟨rfl, rfl⟩))
        have hw2 := T2.out.size
        have O5 : Hid (OwnVals (w2.alloc (.cells #[.int .u32 n] 126)) W.heap.size 126 (.slice na j ncap) (((List.range j).map (numAt f.page)).map fun (n : Nat) => .int .u32 (n : Int))) := (R.out.nums.kept T2.out (by simp)).kept ((Tch.refl [] _).alloc _) (by simp)
        have I5 : Hid (OwnImgs (w2.alloc (.cells #[.int .u32 n] 126)) W.heap.size 84 u7 (((List.range j).map (numAt f.page)).map fun (n : Nat) => ((n : Int), (Arr.zero : Page)))) := (R.out.imgs.kept T2.out (by simp)).kept ((Tch.refl [] _).alloc _) (by simp)
        have V5 : Hid (ValsAt (w2.alloc (.cells #[.int .u32 n] 126)) (some ⟨w2.heap.size, 0, none⟩) [.int .u32 n]) := valsAt_row (heap_alloc_new _ _)
        have T5 : Hid (Tch [] W (w2.alloc (.cells #[.int .u32 n] 126))) := (R.out.tch.trans T2.out).alloc _
        go_upto_region 10 with ((with_reducible apply wc_append_vals u32sT (by decide) (m := [.int .u32 n]) O5.out (by simp; omega) (by simp; omega)); exact rfl; exact rfl; exact rfl; exact rfl; exact V5.out; (intro u hu; simp at hu; subst hu; rfl); intro v7 w7 ho7 ht7; go_frame; have HO7 := Lib.hid ho7; have I7 := Lib.hid (I5.out.kept ht7 (own_apart O5.out I5.out (by decide))); have T7 := Lib.hid (tch_own T5.out ht7 (fun k hk => (O5.out.lt k hk).1)); clear ho7 ht7)
        have hw7 := T7.out.size
        have FI : Hid (fillI 0 Arr.zero [(0, .int .i64 n)] = some (imageA n Arr.zero)) := by show fillI 0 Arr.zero [(0, .int .i64 n)] = _; rw [fillI_num, fillI_nil]
        have O8 : Hid (OwnVals (w7.alloc (.cells (imageA n Arr.zero) 84)) W.heap.size 126 v7 ((((List.range j).map (numAt f.page)).map fun (n : Nat) => .int .u32 (n : Int)) ++ [.int .u32 n])) := HO7.out.kept ((Tch.refl [] _).alloc _) (by simp)
        have I8 : Hid (OwnImgs (w7.alloc (.cells (imageA n Arr.zero) 84)) W.heap.size 84 u7 (((List.range j).map (numAt f.page)).map fun (n : Nat) => ((n : Int), (Arr.zero : Page)))) := I7.out.kept ((Tch.refl [] _).alloc _) (by simp)
        have B8 : Hid ((w7.alloc (.cells (imageA n Arr.zero) 84)).heap[w7.heap.size]? = some (.cells (imageA n Arr.zero) 84)) := heap_alloc_new _ _
        have T8 : Hid (Tch [] W (w7.alloc (.cells (imageA n Arr.zero) 84))) := T7.out.alloc _
        go_wp2_with (first | ((with_reducible refine wc_build_img FI.out ?_ ?_); exact rfl; go_frame) | ((with_reducible refine wc_slice_img imgInfo imgsS (n := (n : Int)) (p := Arr.zero) ?_ ?_); exact rfl; go_frame) | (at_builtin; refine wc_append_img (x := .tmp 36) (y := .tmp 40) imgInfo imgsS (q := ((n : Int), Arr.zero)) I8.out (by simp; omega) (by simp; omega) rfl rfl rfl rfl B8.out ?_; intro v9 w9 ho9 ht9; go_frame; have HO9 := Lib.hid ho9; have O9 := Lib.hid (O8.out.kept ht9 (own_apart' O8.out I8.out (by decide))); have T9 := Lib.hid (tch_own T8.out ht9 (fun k hk => (I8.out.lt k hk).1)); clear ho9 ht9))
        go_roundg (m - (j + 1))
        case measure => omega
        case rel =>
          refine ⟨j + 1, ⟨by omega, by go_num, rfl⟩, ?_⟩
          rw [HNX.out]
          refine ⟨by rw [List.map_append]; exact O9.out, by rw [List.map_append]; exact HO9.out, T9.out, ?_, ?_⟩
          · intro x hx
            rcases List.mem_append.1 hx with hx | hx
            · exact R.out.lt x hx
            · rw [List.mem_singleton.1 hx]; omega
          · refine List.nodup_append.2 ⟨R.out.nd, by simp, ?_⟩
            rintro a ha b hb rfl
            rw [List.mem_singleton] at hb
            exact HMEM.out (hb ▸ ha)
    · have hjm' : j = m := by omega
      subst hjm'
      have hnm : LogS.names f = (List.range j).map (numAt f.page) := by unfold LogS.names; rw [HM.out]
      have hb : S.listed f = decide (f.page = numsPage ((List.range j).map (numAt f.page))) := by
        unfold LogS.listed
        rw [hnm, decide_eq_true R.out.lt, decide_eq_true R.out.nd]; rfl
      have HB := Lib.hid hb
      have HNM := Lib.hid hnm
      subst hv6
      have CN : Hid (∀ w', Tch [] wr w' → Calls Tryz.prog 116 #[.slice na j ncap] w' fun e w'' => e = .returned (.agg (secA (numsPage ((List.range j).map (numAt f.page))))) ∧ Tch [] wr w'') := fun w' ht => by
        have := numbers_any (cap := ncap) (NA.out.later ht) (by simp; omega) (fun n hn => by obtain ⟨i, _, rfl⟩ := List.mem_map.1 hn; exact numAt_lt _ _)
        rw [List.length_map, List.length_range] at this
        exact this.mono (by rintro e w'' ⟨h1, h2⟩; exact ⟨h1, ht.trans h2⟩)
      have KF : Hid (∀ w', Tch [] wr w' → w'.heap[w.heap.size]? = some (.cells (frameA f) 155)) := fun w' ht => ht.heap bR.out (by simp)
      clear hb hnm
      go_upto_region 12 with fail
      refine wp_region_walk (C := fun w' => Tch [] wr w') 8 (by kernel_rfl) (by kernel_rfl) ((Tch.refl _ _).drew) ?_
      simp only [List.take_succ_cons, List.take_zero, List.drop_succ_cons, List.drop_zero]
      (repeat (first
          | ((with_reducible refine wq_load_framepage pageT.agg KF.out ?_ ?_ ?_); exact rfl; exact rfl; go_frame)
          | ((with_reducible refine wq_fn cf_numbers2 ?_ ?_ CN.out ?_); exact rfl; exact rfl; go_frame)
          | ((with_reducible refine wq_eql_arr pageT (s := f.page) (t := numsPage ((List.range j).map (numAt f.page))) ?_ ?_ ?_ ?_); exact rfl; exact rfl; exact rfl; go_frame)
          | go_big_quiet_skip | (go_big_quiet_want; go_big_quiet_op; first | go_big_quiet_on | (refine ⟨_, fun _ _ => rfl, ?_⟩; go_big_quiet_on))))
      refine wpQuiet_nil ?_
      intro w2 ht2
      have T2 := Lib.hid ht2
      clear ht2
      go_wp2_with fail
      go_ret2
      refine ⟨TW.out.trans (R.out.tch.trans T2.out), _, by rw [HB.out]; rfl, fun _ => ?_⟩
      rw [HNM.out]
      exact (R.out.imgs.kept T2.out (by simp)).base TW.out.size
end Go.Proofs.YtkjgbhpnlgcinaaGreatDoor
/-
  The next record of the log: package wal's record.
-/
namespace Go.Cib
open Go Go.RowKit
theorem wc_load_frame {P : Program} {T e : TypeId} {ops : Array Oper} {rest : List Oper} {a : Act} {w : World} {Q : Exit → Act → World → Prop} {dst : Option Tmp} {ty : TypeId} {pos : String} {af : Array Edge} {x : Operand} (hT : FrameT P T) {b : Nat} {f : FrameV} {fr : Nat × Nat} (hb : w.heap[b]? = some (.cells (frameA f) e fr)) (hx : a.eval x = .pointer (some ⟨b, 0, none⟩))
    (h : wpList P ops Q rest (a.put dst (.agg (frameA f))) w) : wpList P ops Q (⟨dst, .load T x, ty, pos, af, none⟩ :: rest) a w :=
  wc_value rfl (exec_load_frame hT rfl hb hx) h
theorem wcg_load_framepage {P : Program} {T : TypeId} {ops : Array Oper} {rest : List Oper} {a : Act} {w : World} {Q : Exit → Act → World → Prop} {dst : Option Tmp} {ty : TypeId} {pos : String} {af : Array Edge} {x : Operand} {gd : Option (Nat × Bool)} (hT : AggT P T 480) {f : FrameV} {b : Nat} {e' : TypeId} {fr : Nat × Nat} (hb : w.heap[b]? = some (.cells (frameA f) e' fr))
    (hw : Region.wanted ⟨dst, .load T x, ty, pos, af, gd⟩ (yielded ops a.tmps) = true) (hx : a.eval x = .pointer (some ⟨b, 4, none⟩)) (h : wpList P ops Q rest (a.put dst (.agg (secA f.page))) w) : wpList P ops Q (⟨dst, .load T x, ty, pos, af, gd⟩ :: rest) a w :=
  wcg_value hw (exec_load_framepage hT rfl hb hx) h
theorem wcg_build_arr {P : Program} {T : TypeId} {n : Nat} {ops : Array Oper} {rest : List Oper} {a : Act} {w : World} {Q : Exit → Act → World → Prop} {dst : Option Tmp} {ty : TypeId} {pos : String} {af : Array Edge} {gd : Option (Nat × Bool)} (hT : BytesT P T n)
    (hw : Region.wanted ⟨dst, .build T #[], ty, pos, af, gd⟩ (yielded ops a.tmps) = true) (h : wpList P ops Q rest (a.put dst (.agg (secA (Arr.zero : Arr n)))) w) : wpList P ops Q (⟨dst, .build T #[], ty, pos, af, gd⟩ :: rest) a w := by
  obtain ⟨i, h1, _, _, h2⟩ := hT.info
  obtain ⟨E, j, g1, _, g2, _⟩ := hT.und
  exact wcg_value hw (exec_build_zero h1 h2 g1 g2 rfl) h
namespace LogS
/-- The images gathered so far. -/
def gath (S : LogS) (f : FrameV) (n k : Nat) : List (Int × Page) := (List.range n).map fun i => ((numAt f.page i : Int), if i < k then (S.atF (S.used + 1 + i)).page else Arr.zero)
theorem gath_zero (S : LogS) (f : FrameV) : S.gath f f.idx 0 = (names f).map fun (n : Nat) => ((n : Int), (Arr.zero : Page)) := by
  unfold gath names
  rw [List.map_map]
  exact List.map_congr_left fun i _ => by simp
theorem gath_set (S : LogS) (f : FrameV) (n k : Nat) (hk : k < n) : (S.gath f n k).set k ((numAt f.page k : Int), (S.atF (S.used + 1 + k)).page) = S.gath f n (k + 1) := by
  unfold gath
  apply List.ext_getElem?
  intro i
  rw [List.getElem?_set]
  simp only [List.getElem?_map, List.length_map, List.length_range]
  by_cases hi : i < n
  · rw [List.getElem?_range hi]
    by_cases h : k = i
    · subst h; simp [hi]
    · rw [if_neg h]
      by_cases h2 : i < k
      · simp [h2, show i < k + 1 by omega]
      · simp [h2, show ¬ i < k + 1 by omega]
  · rw [List.getElem?_eq_none (by simpa using hi)]
    rw [if_neg (by omega)]
    rfl
theorem gath_all (S : LogS) (f : FrameV) : S.gath f f.idx f.idx = (S.images f).map fun q => ((q.1 : Int), q.2) := by
  unfold gath images
  rw [List.map_map]
  refine List.map_congr_left fun i hi => ?_
  rw [if_pos (List.mem_range.1 hi)]
  rfl
end LogS
end Go.Cib
namespace Go.Proofs.YtkjgbhpnlgcinaaGreatDoor
open Go.RowKit Go.Cib
/-- What record needs of a log. -/
structure RecOk (S : LogS) : Prop where
  alive : S.disk.dead = false
  size : 2 + S.log ≤ S.disk.lasts.length
  log : S.log ≤ 4000
  used : S.used ≤ S.log
  records : S.records ≤ 4000
  pages : S.pages ≤ 16384

set_option maxRecDepth 20000 in
set_option maxHeartbeats 4000000 in
theorem record_any {w : World} {g d L M V : Nat} {S : LogS} (h : LogAt w g d L M V S) (ok : RecOk S) :
    Calls Tryz.prog 77 #[.pointer (some ⟨g, 0, none⟩)] w fun e w' =>
      (S.record = none ∧ e = .returned (.tuple #[.bool false, .int .i64 0]) ∧ Tch [] w w') ∨ ∃ ws, S.record = some ws ∧ e = .returned (.tuple #[.bool true, .int .i64 0]) ∧ LogAt w' g d L M V (S.took ws) ∧ Tch [g, V] w w' := by
  have H := Lib.hid h
  have OKK := Lib.hid ok
  have AT : Hid (∀ w1, Tch [] w w1 → ∀ place kind, place ≤ 100000 → Calls Tryz.prog 120 #[.pointer (some ⟨g, 0, none⟩), .int .i64 (place : Nat), .int .u8 (kind : UInt8).toNat] w1 fun e w' =>
      e = .returned (.tuple #[.agg (frameA (S.atF place)), .bool (S.atOk place kind), .int .i64 0]) ∧ Tch [] w w') := fun w1 t1 place kind hp =>
    (at_any (h.touch t1 (by simp) (by simp) (by simp) (by simp) (by simp)) ok.alive ok.size place hp kind).mono (by rintro e w' ⟨h1, h2⟩; exact ⟨h1, t1.trans h2⟩)
  have c4 := h.cell 4 rfl
  have hlog := ok.log
  have hus := ok.used
  obtain ⟨f, hf⟩ : ∃ f, S.atF S.used = f := ⟨_, rfl⟩
  obtain ⟨ob, hob⟩ : ∃ ob, S.atOk S.used 2 = ob := ⟨_, rfl⟩
  have A0 : Hid (Calls Tryz.prog 120 #[.pointer (some ⟨g, 0, none⟩), .int .i64 S.used, .int .u8 2] w fun e w' => e = .returned (.tuple #[.agg (frameA f), .bool ob, .int .i64 0]) ∧ Tch [] w w') := by
    rw [← hf, ← hob]; exact AT.out w (Tch.refl _ _) S.used 2 (by omega)
  have HF := Lib.hid hf
  have HOB := Lib.hid hob
  have RN : Hid (∀ _ : ¬ (S.atOk S.used 2 = true ∧ 1 ≤ (S.atF S.used).idx ∧ (S.atF S.used).idx ≤ 120 ∧ S.used + (S.atF S.used).idx + 2 ≤ S.log ∧ S.listed (S.atF S.used) = true ∧
      (∀ k < (S.atF S.used).idx, S.atOk (S.used + 1 + k) 3 = true ∧ (S.atF (S.used + 1 + k)).idx = k) ∧
      S.atOk (S.used + 1 + (S.atF S.used).idx) 4 = true ∧ (S.atF (S.used + 1 + (S.atF S.used).idx)).idx = (S.atF S.used).idx ∧ (S.atF (S.used + 1 + (S.atF S.used).idx)).page = Arr.zero), S.record = none) := fun hn => by unfold LogS.record; rw [if_neg hn]
  have hokf : f.Ok := by
    rw [← hf]; unfold LogS.atF
    split
    · exact parse_ok _
    · exact ⟨by decide, by decide, by decide⟩
  have hidx := hokf.idx
  rw [hf, hob] at RN
  obtain ⟨m, hm⟩ : ∃ m, f.idx = m := ⟨_, rfl⟩
  have HM := Lib.hid hm
  clear h ok hf hob hokf
  go_enter Tryz.func77, Tryz.ntmps77
  go_upto_region 2 with (first | (go_at_call 120; refine A0.out.mono ?_; rintro e w1 ⟨rfl, q1⟩; have T1 := Lib.hid q1; clear q1) | ((with_reducible refine wc_alloc_frame frameTT ?_); go_frame) | ((with_reducible apply wc_store_frame frameTT (heap_alloc_new w1 (.cells (frameA FrameV.zero) 155)) (g := f)); exact rfl; exact rfl; go_frame; rw [setRow_alloc_new]))
  obtain ⟨F, hF⟩ : ∃ F, w1.heap.size = F := ⟨_, rfl⟩
  obtain ⟨W, hW⟩ : ∃ W, w1.alloc (.cells (frameA f) 155) = W := ⟨_, rfl⟩
  have bF : W.heap[F]? = some (.cells (frameA f) 155) := by rw [← hW, ← hF]; exact heap_alloc_new _ _
  have tW : Tch [] w W := by rw [← hW]; exact T1.out.alloc _
  rw [hF, hW]
  obtain ⟨k0, k1, k2, k3⟩ := frame_cell bF
  rw [hm] at k3 hidx
  have hw := H.out.touch tW (by simp) (by simp) (by simp) (by simp) (by simp)
  have c1W := hw.cell 1 rfl
  have c4W := hw.cell 4 rfl
  have BF := Lib.hid bF
  have TW := Lib.hid tW
  clear hF hW bF tW hw A0 T1 k0 k1 k2 c4
  have hsub : wrap64 ((S.log : Int) - S.used) = S.log - S.used := by unfold wrap64; omega
  by_cases h1 : ob = true
  rotate_left
  · have hb : ob = false := by simpa using h1
    have E := Lib.hid (RN.out (fun hh => h1 hh.1))
    subst hb
    clear h1
    (refine wp_region_walk (C := fun w' => ∃ n, w' = World.drewN W n) 32 (by kernel_rfl) (by kernel_rfl) ⟨1, rfl⟩ ?_; simp only [List.take_succ_cons, List.take_zero, List.drop_succ_cons, List.drop_zero]; (repeat (first | fail | go_big_quiet_step (fail))); refine wpQuiet_nil ?_; intro _ hw'; obtain ⟨nq, hw''⟩ := hw'; subst hw'')
    go_wp2_with fail
    go_ret2
    exact .inl ⟨E.out, rfl, TW.out.trans (tch_drewN W nq)⟩
  subst h1
  by_cases h2 : 1 ≤ m
  rotate_left
  · have E := Lib.hid (RN.out (fun hh => h2 (by have := hh.2.1; rw [HM.out] at this; exact this)))
    have h2' : (m : Int) < 1 := by omega
    (refine wp_region_walk (C := fun w' => ∃ n, w' = World.drewN W n) 32 (by kernel_rfl) (by kernel_rfl) ⟨1, rfl⟩ ?_; simp only [List.take_succ_cons, List.take_zero, List.drop_succ_cons, List.drop_zero]; (repeat (first | fail | go_big_quiet_step (fail))); refine wpQuiet_nil ?_; intro _ hw'; obtain ⟨nq, hw''⟩ := hw'; subst hw'')
    go_wp2_with fail
    go_ret2
    exact .inl ⟨E.out, rfl, TW.out.trans (tch_drewN W nq)⟩
  have h2' : ¬ ((m : Int) < 1) := by omega
  by_cases h3 : m ≤ 120
  rotate_left
  · have E := Lib.hid (RN.out (fun hh => h3 (by have := hh.2.2.1; rw [HM.out] at this; exact this)))
    have h3' : (120 : Int) < m := by omega
    (refine wp_region_walk (C := fun w' => ∃ n, w' = World.drewN W n) 32 (by kernel_rfl) (by kernel_rfl) ⟨1, rfl⟩ ?_; simp only [List.take_succ_cons, List.take_zero, List.drop_succ_cons, List.drop_zero]; (repeat (first | fail | go_big_quiet_step (fail))); refine wpQuiet_nil ?_; intro _ hw'; obtain ⟨nq, hw''⟩ := hw'; subst hw'')
    go_wp2_with fail
    go_ret2
    exact .inl ⟨E.out, rfl, TW.out.trans (tch_drewN W nq)⟩
  have h3' : ¬ ((120 : Int) < m) := by omega
  by_cases h4 : S.used + m + 2 ≤ S.log
  rotate_left
  · have E := Lib.hid (RN.out (fun hh => h4 (by have := hh.2.2.2.1; rw [HM.out] at this; exact this)))
    have h4' : (S.log : Int) - S.used < m + 2 := by omega
    (refine wp_region_walk (C := fun w' => ∃ n, w' = World.drewN W n) 32 (by kernel_rfl) (by kernel_rfl) ⟨1, rfl⟩ ?_; simp only [List.take_succ_cons, List.take_zero, List.drop_succ_cons, List.drop_zero]; (repeat (first | fail | go_big_quiet_step (fail))); refine wpQuiet_nil ?_; intro _ hw'; obtain ⟨nq, hw''⟩ := hw'; subst hw'')
    go_wp2_with fail
    go_ret2
    exact .inl ⟨E.out, rfl, TW.out.trans (tch_drewN W nq)⟩
  have h4' : ¬ (S.log : Int) - S.used < m + 2 := by omega
  (refine wp_region_walk (C := fun w' => ∃ n, w' = World.drewN W n) 32 (by kernel_rfl) (by kernel_rfl) ⟨1, rfl⟩ ?_; simp only [List.take_succ_cons, List.take_zero, List.drop_succ_cons, List.drop_zero]; (repeat (first | fail | go_big_quiet_step (fail))); refine wpQuiet_nil ?_; intro _ hw'; obtain ⟨nq, hw''⟩ := hw'; subst hw'')
  have T2 := Lib.hid (TW.out.trans (tch_drewN W nq))
  have BF2 := Lib.hid ((tch_drewN W nq).heap BF.out (by simp))
  have k32 := cell_old (tch_drewN W nq) k3
  clear k3 c1W c4W BF TW
  generalize W.drewN nq = W2 at *
  have H2 := Lib.hid (H.out.touch T2.out (by simp) (by simp) (by simp) (by simp) (by simp))
  have CL := Lib.hid (listed_any H2.out f (by omega))
  obtain ⟨lb, hlb⟩ : ∃ lb, S.listed f = lb := ⟨_, rfl⟩
  rw [hlb] at CL RN
  cases lb with
  | false =>
    have E := Lib.hid (RN.out (fun hh => by have := hh.2.2.2.2.1; cases this))
    clear hlb
    go_wp2_with (first | ((with_reducible apply wc_load_frame frameTT BF2.out); exact rfl; go_frame) | (go_at_call 121; refine CL.out.mono ?_; rintro e w3 ⟨q1, v, rfl, _⟩; have T3 := Lib.hid (T2.out.trans q1); clear q1))
    go_ret2
    exact .inl ⟨E.out, rfl, T3.out⟩
  | true =>
    have HLB := Lib.hid hlb
    clear hlb
    go_upto_region 8 with (first | ((with_reducible apply wc_load_frame frameTT BF2.out); exact rfl; go_frame) | (go_at_call 121; refine CL.out.mono ?_; rintro e w3 ⟨q1, v, rfl, q2⟩; have T3 := Lib.hid (T2.out.trans q1); have BF3 := Lib.hid (q1.heap BF2.out (by simp)); have q3 := q2 rfl; rw [← LogS.gath_zero S f, HM.out] at q3; have I3 := Lib.hid q3; clear q1 q2 q3))
    have hFw : w.heap.size ≤ W2.heap.size := T2.out.size
    obtain ⟨ia, icap, hv, _, hbase⟩ := I3.out.at_
    have hgl : (S.gath f m 0).length = m := by simp [LogS.gath]
    rw [hgl] at hv
    subst hv
    have HBASE := Lib.hid hbase
    clear hbase hgl
    obtain ⟨ib, rfl⟩ : ∃ ib, ia = some ⟨ib, 0, none⟩ := by
      obtain ⟨a', cap', e', hI, _⟩ := I3.out.at_
      rw [(Value.slice.inj e').1]
      obtain ⟨b, c, e, fr, hb, _⟩ := hI 0 _ (List.getElem?_eq_getElem (by rw [LogS.gath, List.length_map, List.length_range]; omega))
      exact ⟨b, hb⟩
    have hibW : W2.heap.size ≤ ib := HBASE.out ib rfl
    have hFW2 : F < W2.heap.size := lt_of_heap BF2.out
    have hibw : w.heap.size ≤ ib := by omega
    go_wp2_with fail
    go_loopg [70] m (fun q i wr => ∃ k, OnAt m i q k ∧ OwnImgs wr W2.heap.size 84 (.slice (some ⟨ib, 0, none⟩) m icap) (S.gath f m k) ∧ Tch [ib] w3 wr ∧ ∀ i < k, S.atOk (S.used + 1 + i) 3 = true ∧ (S.atF (S.used + 1 + i)).idx = i)
    case atStart => exact ⟨0, ⟨Nat.zero_le _, rfl, rfl⟩, I3.out, Tch.refl _ _, fun i hi => by omega⟩
    case round =>
      obtain ⟨k, ⟨hk, rfl, rfl⟩, him, ht, hall⟩ := hrel
      have tw : Tch [] w wr := tch_own T3.out ht (by simpa using hibw)
      have hl := H.out.touch tw (by simp) (by simp) (by simp) (by simp) (by simp)
      have c4 := hl.cell 4 rfl
      have bF := ht.heap BF3.out (by simp; omega)
      obtain ⟨_, _, _, kF⟩ := frame_cell bF
      rw [HM.out] at kF
      have IM := Lib.hid him
      have TR := Lib.hid ht
      have ALL := Lib.hid hall
      have TWR := Lib.hid tw
      have BFR := Lib.hid bF
      clear him ht hall hl bF
      by_cases hkm : k < m
      · obtain ⟨fk, hfk⟩ : ∃ fk, S.atF (S.used + 1 + k) = fk := ⟨_, rfl⟩
        obtain ⟨bk, hbk⟩ : ∃ bk, S.atOk (S.used + 1 + k) 3 = bk := ⟨_, rfl⟩
        have AK : Hid (Calls Tryz.prog 120 #[.pointer (some ⟨g, 0, none⟩), .int .i64 ((S.used : Int) + 1 + k), .int .u8 3] wr fun e w' => e = .returned (.tuple #[.agg (frameA fk), .bool bk, .int .i64 0]) ∧ Tch [] wr w') := by
          have := at_any (TWR.out |> fun t => H.out.touch t (by simp) (by simp) (by simp) (by simp) (by simp)) OKK.out.alive OKK.out.size (S.used + 1 + k) (by omega) 3
          rw [hfk, hbk, show ((S.used + 1 + k : Nat) : Int) = (S.used : Int) + 1 + k by omega] at this
          exact this
        have HFK := Lib.hid hfk
        have HBK := Lib.hid hbk
        have hfi : fk.idx < 4294967296 := by
          rw [← hfk]; unfold LogS.atF
          split
          · exact (parse_ok _).idx
          · decide
        have W3k := convU32 k (by omega)
        clear hfk hbk tw
        go_upto_region 12 with (first | (go_at_call 120; refine AK.out.mono ?_; rintro e w5 ⟨rfl, q1⟩; have T5 := Lib.hid q1; clear q1) | ((with_reducible refine wc_alloc_frame frameTT ?_); go_frame) | ((with_reducible apply wc_store_frame frameTT (heap_alloc_new w5 (.cells (frameA FrameV.zero) 155)) (g := fk)); exact rfl; exact rfl; go_frame; rw [setRow_alloc_new]))
        obtain ⟨G, hG⟩ : ∃ G, w5.heap.size = G := ⟨_, rfl⟩
        obtain ⟨w6, hw6⟩ : ∃ w6, w5.alloc (.cells (frameA fk) 155) = w6 := ⟨_, rfl⟩
        have bG : w6.heap[G]? = some (.cells (frameA fk) 155) := by rw [← hw6, ← hG]; exact heap_alloc_new _ _
        have t6 : Tch [] wr w6 := by rw [← hw6]; exact T5.out.alloc _
        obtain ⟨_, _, _, kG⟩ := frame_cell bG
        rw [hG, hw6]
        have BG := Lib.hid bG
        have T6 := Lib.hid t6
        have I6 := Lib.hid (IM.out.kept t6 (by simp))
        clear hG hw6 bG t6 c4 kF T5
        by_cases p1 : bk = true
        rotate_left
        · have pb : bk = false := by simpa using p1
          have E := Lib.hid (RN.out (fun hh => p1 (by have := (hh.2.2.2.2.2.1 k (by rw [HM.out]; exact hkm)).1; rw [HBK.out] at this; exact this)))
          subst pb
          clear p1
          go_wp2_with fail
          go_ret2
          exact .inl ⟨E.out, rfl, TWR.out.trans T6.out⟩
        subst p1
        by_cases p2 : fk.idx = k
        rotate_left
        · have E := Lib.hid (RN.out (fun hh => p2 (by have := (hh.2.2.2.2.2.1 k (by rw [HM.out]; exact hkm)).2; rw [HFK.out] at this; exact this)))
          have p2' : ((fk.idx : Int) != k) = true := by simp; omega
          clear p2
          go_wp2_with fail
          go_ret2
          exact .inl ⟨E.out, rfl, TWR.out.trans T6.out⟩
        · have p2' : ((fk.idx : Int) != k) = false := by simp; omega
          have P2 := Lib.hid p2
          have hgk : (S.gath f m k)[k]? = some ((numAt f.page k : Int), if k < k then (S.atF (S.used + 1 + k)).page else Arr.zero) := by unfold LogS.gath; rw [List.getElem?_map, List.getElem?_range hkm]; rfl
          have HGK := Lib.hid hgk
          clear p2 hgk
          go_wp2_with (first | ((with_reducible apply wc_load_framepage pageT.agg BG.out); exact rfl; go_frame) | ((with_reducible refine wc_store_imgpage pageT.agg (p := fk.page) I6.out HGK.out rfl ?_ ?_ ?_); exact rfl; exact rfl; intro w8 ho8 ht8; go_frame; have I8 := Lib.hid ho8; have T8 := Lib.hid ht8; clear ho8 ht8))
          go_roundg (m - (k + 1))
          case measure => omega
          case rel =>
            refine ⟨k + 1, ⟨by omega, by go_num, rfl⟩, ?_, TR.out.trans ((T6.out.mono (by simp)).trans T8.out), fun i hi => ?_⟩
            · have := I8.out
              rw [← HFK.out, LogS.gath_set S f m k hkm] at this
              exact this
            · rcases Nat.lt_or_ge i k with h | h
              · exact ALL.out i h
              · have : i = k := by omega
                subst this
                exact ⟨HBK.out, by rw [HFK.out]; exact P2.out⟩
      · have hkm' : k = m := by omega
        subst hkm'
        obtain ⟨fe, hfe⟩ : ∃ fe, S.atF (S.used + 1 + k) = fe := ⟨_, rfl⟩
        obtain ⟨be, hbe⟩ : ∃ be, S.atOk (S.used + 1 + k) 4 = be := ⟨_, rfl⟩
        have AK : Hid (Calls Tryz.prog 120 #[.pointer (some ⟨g, 0, none⟩), .int .i64 ((S.used : Int) + 1 + k), .int .u8 4] wr fun e w' => e = .returned (.tuple #[.agg (frameA fe), .bool be, .int .i64 0]) ∧ Tch [] wr w') := by
          have := at_any (TWR.out |> fun t => H.out.touch t (by simp) (by simp) (by simp) (by simp) (by simp)) OKK.out.alive OKK.out.size (S.used + 1 + k) (by omega) 4
          rw [hfe, hbe, show ((S.used + 1 + k : Nat) : Int) = (S.used : Int) + 1 + k by omega] at this
          exact this
        have hfi : fe.idx < 4294967296 := by
          rw [← hfe]; unfold LogS.atF
          split
          · exact (parse_ok _).idx
          · decide
        have e0 : S.atF S.used = f := HF.out
        have hrec : S.record = if be = true ∧ fe.idx = k ∧ fe.page = Arr.zero then some (S.images f) else none := by
          by_cases hc : be = true ∧ fe.idx = k ∧ fe.page = Arr.zero
          · rw [if_pos hc]
            unfold LogS.record
            rw [e0, HM.out, hfe, hbe, if_pos ⟨HOB.out, h2, h3, h4, HLB.out, ALL.out, hc.1, hc.2.1, hc.2.2⟩]
          · rw [if_neg hc]
            refine RN.out (fun hh => hc ?_)
            have := hh.2.2.2.2.2.2
            rw [HM.out, hfe, hbe] at this
            exact this
        have HREC := Lib.hid hrec
        clear hfe hbe tw hrec e0
        go_upto_region 17 with (first | (go_at_call 120; refine AK.out.mono ?_; rintro e w5 ⟨rfl, q1⟩; have T5 := Lib.hid q1; clear q1) | ((with_reducible refine wc_alloc_frame frameTT ?_); go_frame) | ((with_reducible apply wc_store_frame frameTT (heap_alloc_new w5 (.cells (frameA FrameV.zero) 155)) (g := fe)); exact rfl; exact rfl; go_frame; rw [setRow_alloc_new]))
        obtain ⟨G, hG⟩ : ∃ G, w5.heap.size = G := ⟨_, rfl⟩
        obtain ⟨w6, hw6⟩ : ∃ w6, w5.alloc (.cells (frameA fe) 155) = w6 := ⟨_, rfl⟩
        have bG : w6.heap[G]? = some (.cells (frameA fe) 155) := by rw [← hw6, ← hG]; exact heap_alloc_new _ _
        have t6 : Tch [] wr w6 := by rw [← hw6]; exact T5.out.alloc _
        obtain ⟨_, _, _, kG⟩ := frame_cell bG
        have kF6 := cell_old t6 kF
        rw [hG, hw6]
        have BG := Lib.hid bG
        have T6 := Lib.hid t6
        have I6 := Lib.hid (IM.out.kept t6 (by simp))
        clear hG hw6 bG t6 c4 kF T5
        by_cases p1 : be = true
        rotate_left
        · have pb : be = false := by simpa using p1
          have E : Hid (S.record = none) := by show _ = _; rw [HREC.out, if_neg (fun hh => p1 hh.1)]
          subst pb
          clear p1
          go_wp2_with fail
          go_ret2
          exact .inl ⟨E.out, rfl, TWR.out.trans T6.out⟩
        subst p1
        by_cases p2 : fe.idx = k
        rotate_left
        · have E : Hid (S.record = none) := by show _ = _; rw [HREC.out, if_neg (fun hh => p2 hh.2.1)]
          have p2' : ((fe.idx : Int) != k) = true := by simp; omega
          clear p2
          go_wp2_with fail
          go_ret2
          exact .inl ⟨E.out, rfl, TWR.out.trans T6.out⟩
        have p2' : ((fe.idx : Int) != k) = false := by simp; omega
        have P2 := Lib.hid p2
        clear p2
        by_cases p3 : fe.page = Arr.zero
        rotate_left
        · have E : Hid (S.record = none) := by show _ = _; rw [HREC.out, if_neg (fun hh => p3 hh.2.2)]
          have p3' : decide (fe.page = Arr.zero) = false := by simp [p3]
          clear p3
          go_wp2_with (first | ((with_reducible refine wcg_load_framepage pageT.agg BG.out ?_ ?_ ?_); exact rfl; exact rfl; go_frame) | ((with_reducible refine wcg_build_arr pageT ?_ ?_); exact rfl; go_frame) | ((with_reducible refine wcg_neq_arr pageT (s := fe.page) (t := Arr.zero) ?_ ?_ ?_ ?_); exact rfl; exact rfl; exact rfl; rw [p3']; go_frame))
          go_ret2
          exact .inl ⟨E.out, rfl, TWR.out.trans T6.out⟩
        · have E : Hid (S.record = some (S.images f)) := by show _ = _; rw [HREC.out, if_pos ⟨rfl, P2.out, p3⟩]
          have p3' : decide (fe.page = Arr.zero) = true := by simp [p3]
          have hil : (S.images f).length = k := by unfold LogS.images; rw [List.length_map, List.length_range, HM.out]
          have hga : S.gath f k k = (S.images f).map fun q => ((q.1 : Int), q.2) := by
            have := LogS.gath_all S f
            rw [HM.out] at this
            exact this
          have tw6 := TWR.out.trans T6.out
          have h6 := H.out.touch tw6 (by simp) (by simp) (by simp) (by simp) (by simp)
          have im6 : ImgsAt w6 (some ⟨ib, 0, none⟩) ((S.images f).map fun q => ((q.1 : Int), q.2)) := by
            obtain ⟨a', cap', e', hI, _⟩ := I6.out.at_
            rw [← (Value.slice.inj e').1, hga] at hI
            exact hI
          have TK : Hid (Calls Tryz.prog 88 #[.pointer (some ⟨g, 0, none⟩), .slice (some ⟨ib, 0, none⟩) k icap] w6 fun e w' => e = .returned (.tuple #[]) ∧ LogAt w' g d L M V (S.took (S.images f)) ∧ Tch [g, V] w w') := by
            have := took_any (icap := icap) h6 im6 (by omega) (by omega) OKK.out.records
            rw [hil] at this
            exact this.mono (by rintro e w' ⟨q1, q2, q3⟩; exact ⟨q1, q2, (tw6.mono (by simp)).trans q3⟩)
          clear p3 hil hga tw6 h6 im6
          go_wp2_with (first | ((with_reducible refine wcg_load_framepage pageT.agg BG.out ?_ ?_ ?_); exact rfl; exact rfl; go_frame) | ((with_reducible refine wcg_build_arr pageT ?_ ?_); exact rfl; go_frame) | ((with_reducible refine wcg_neq_arr pageT (s := fe.page) (t := Arr.zero) ?_ ?_ ?_ ?_); exact rfl; exact rfl; exact rfl; rw [p3']; go_frame) | (go_at_call 88; refine TK.out.mono ?_; rintro e w9 ⟨rfl, q1, q2⟩; have Z1 := Lib.hid q1; have Z2 := Lib.hid q2; clear q1 q2))
          go_ret2
          exact .inr ⟨_, E.out, rfl, Z1.out, Z2.out⟩
end Go.Proofs.YtkjgbhpnlgcinaaGreatDoor
/-
  A head is taken, if it counts: package wal's chooses.
-/
namespace Go.Proofs.YtkjgbhpnlgcinaaGreatDoor
open Go.RowKit Go.Cib
def KCho (g d F : Nat) (lg pg len : Nat) (p : Page) : Nat → Value → World → Prop
  | 0, v, _ => v = .int .u32 lg
  | 1, v, _ => v = .bool false
  | 2, v, _ => v = .bool false
  | 3, v, _ => v = .int .u32 lg
  | 4, v, _ => v = .bool false
  | 5, v, _ => v = .bool false
  | 6, v, _ => v = .bool false
  | 7, v, _ => v = .int .u32 pg
  | 8, v, _ => v = .bool false
  | 9, v, _ => v = .bool false
  | 10, v, _ => v = .bool false
  | 11, v, _ => v = .int .u32 pg
  | 12, v, _ => v = .bool false
  | 13, v, _ => v = .bool false
  | 14, v, _ => v = .bool false
  | 15, v, _ => v = .int .u32 lg
  | 16, v, _ => v = .int .u32 (2 + lg)
  | 17, v, _ => v = .int .u32 pg
  | 18, v, _ => v = .int .u32 (2 + lg + pg)
  | 19, v, _ => v = .int .i64 (2 + lg + pg)
  | 20, v, _ => v = .pointer (some ⟨g, 0, none⟩)
  | 21, v, _ => v = .pointer (some ⟨g, 0, none⟩)
  | 22, v, _ => v = .pointer (some ⟨g, 0, none⟩)
  | 23, v, _ => v = .pointer (some ⟨d, 0, none⟩)
  | 24, v, _ => v = .int .i64 len
  | 25, v, _ => v = .bool false
  | 26, v, _ => v = .bool false
  | 27, v, _ => v = .bool false
  | 28, v, _ => v = .pointer (some ⟨F, 4, none⟩)
  | 29, v, _ => v = .agg (secA p)
  | 30, v, _ => v = .int .u32 lg
  | 31, v, _ => v = .int .u32 pg
  | 32, v, w => ∃ k, v = .slice (some ⟨k, 0, none⟩) 2 2 ∧ NumsAt w (some ⟨k, 0, none⟩) [lg, pg]
  | _, v, _ => v = .agg (secA (numsPage [lg, pg]))
theorem KCho.later {g d F lg pg len : Nat} {p : Page} {j : Nat} {v : Value} {w w' : World} (h : KCho g d F lg pg len p j v w) (ht : Tch [] w w') : KCho g d F lg pg len p j v w' := by
  unfold KCho at h ⊢
  split at h <;> first | exact h | (obtain ⟨k, e, hk⟩ := h; exact ⟨k, e, hk.later ht⟩)
set_option maxRecDepth 20000 in
theorem cf_number (args : Array Value) (w : World) : (callFunc 119 args).run Tryz.prog w = .ok (.enter 119 args) w := rfl

set_option maxRecDepth 20000 in
set_option maxHeartbeats 4000000 in
theorem chooses_any {w : World} {g d L M V : Nat} {S : LogS} (h : LogAt w g d L M V S) (i : Nat) (hi : i < 2) (s : Sec) :
    Calls Tryz.prog 76 #[.pointer (some ⟨g, 0, none⟩), .int .i64 i, .agg (secA s)] w fun e w' => e = .returned (.tuple #[]) ∧ LogAt w' g d L M V (S.chooses i s) ∧ Tch [g] w w' := by
  obtain ⟨w1, hw1⟩ : ∃ w1, w.alloc (.cells (secA s) 124) = w1 := ⟨_, rfl⟩
  have t1 : Tch [] w w1 := by rw [← hw1]; exact (Tch.refl _ _).alloc _
  have b1 : w1.heap[w.heap.size]? = some (.cells (secA s) 124) := by rw [← hw1]; exact heap_alloc_new _ _
  obtain ⟨f, hf⟩ : ∃ f, parse s = f := ⟨_, rfl⟩
  have hfo : f.Ok := hf ▸ parse_ok s
  obtain ⟨lg, hlg⟩ : ∃ lg, numAt f.page 0 = lg := ⟨_, rfl⟩
  obtain ⟨pg, hpg⟩ : ∃ pg, numAt f.page 1 = pg := ⟨_, rfl⟩
  have hlg2 : lg < 4294967296 := hlg ▸ numAt_lt _ _
  have hpg2 : pg < 4294967296 := hpg ▸ numAt_lt _ _
  obtain ⟨len, hlen⟩ : ∃ len, S.disk.lasts.length = len := ⟨_, rfl⟩
  have hlen2 : len ≤ 16384 := by rw [← hlen]; exact h.hD.ok.size
  have NO : Hid (¬ (f.sector = s ∧ f.kind = 1 ∧ f.num = 0 ∧ f.idx = 0 ∧ S.gen < f.gen ∧ f.gen % 2 = i ∧ 3 ≤ lg ∧ lg ≤ 4000 ∧ 1 ≤ pg ∧ pg ≤ 16384 ∧ 2 + lg + pg = len ∧ f.page = numsPage [lg, pg]) → S.chooses i s = S) := fun hn => by
    unfold LogS.chooses
    rw [if_neg]
    rintro ⟨h1, h2⟩
    unfold LogS.counts at h2
    rw [hf] at h1 h2
    rw [hlg, hpg, hlen] at h2
    exact hn ⟨h1, h2⟩
  have YES : Hid ((f.sector = s ∧ f.kind = 1 ∧ f.num = 0 ∧ f.idx = 0 ∧ S.gen < f.gen ∧ f.gen % 2 = i ∧ 3 ≤ lg ∧ lg ≤ 4000 ∧ 1 ≤ pg ∧ pg ≤ 16384 ∧ 2 + lg + pg = len ∧ f.page = numsPage [lg, pg]) → S.chooses i s = { S with gen := f.gen, log := lg, pages := pg }) := fun hn => by
    have hc : (parse s).sector = s ∧ S.counts i (parse s) := by
      unfold LogS.counts
      rw [hf, hlg, hpg, hlen]
      exact hn
    unfold LogS.chooses
    rw [if_pos hc, hf, hlg, hpg]
  have HW1 := Lib.hid hw1
  have T1 := Lib.hid t1
  have B1 := Lib.hid b1
  have H := Lib.hid h
  have HF := Lib.hid hf
  have HLG := Lib.hid hlg
  have HPG := Lib.hid hpg
  have LEN := Lib.hid hlen
  have FO := Lib.hid hfo
  obtain ⟨ob, hob⟩ : ∃ ob, decide (f.sector = s) = ob := ⟨_, rfl⟩
  have HOB := Lib.hid hob
  clear hw1 t1 b1 h hf hlg hpg hlen hfo hob
  go_enter Tryz.func76, Tryz.ntmps76
  go_upto_region 1 with ((with_reducible refine wc_box_agg ?_ ?_); exact rfl; go_frame)
  rw [HW1.out]
  go_upto_region 2 with (first | ((with_reducible apply wc_load_var secT B1.out); exact rfl; go_frame) | (go_at_call 109; refine (wread_any s _).mono ?_; rintro e w2 ⟨rfl, q1⟩; rw [HF.out, HOB.out]; have T2 := Lib.hid (T1.out.trans q1); clear q1) | ((with_reducible refine wc_alloc_frame frameTT ?_); go_frame) | ((with_reducible apply wc_store_frame frameTT (heap_alloc_new w2 (.cells (frameA FrameV.zero) 155)) (g := f)); exact rfl; exact rfl; go_frame; rw [setRow_alloc_new]))
  obtain ⟨F, hF⟩ : ∃ F, w2.heap.size = F := ⟨_, rfl⟩
  obtain ⟨w3, hw3⟩ : ∃ w3, w2.alloc (.cells (frameA f) 155) = w3 := ⟨_, rfl⟩
  have b3 : w3.heap[F]? = some (.cells (frameA f) 155) := by rw [← hw3, ← hF]; exact heap_alloc_new _ _
  have t3 : Tch [] w w3 := by rw [← hw3]; exact T2.out.alloc _
  have hFw : w.heap.size ≤ F := by rw [← hF]; exact T2.out.size
  rw [hF, hw3]
  have T3 := Lib.hid t3
  have B3 := Lib.hid b3
  clear hF hw3 b3 t3 T2
  have KF : Hid (∀ w', Tch [] w3 w' → w'.heap[F]? = some (.cells (frameA f) 155)) := fun w' ht => ht.heap B3.out (by simp)
  have N0 : Hid (∀ w', Tch [] w3 w' → Calls Tryz.prog 119 #[.agg (secA f.page), .int .i64 0] w' fun e w'' => e = .returned (.int .u32 lg) ∧ Tch [] w3 w'') := fun w' ht => by
    rw [← HLG.out]; exact (pnumber_any f.page 0 (by omega) w').mono (by rintro e w'' ⟨h1, h2⟩; exact ⟨h1, ht.trans h2⟩)
  have N1 : Hid (∀ w', Tch [] w3 w' → Calls Tryz.prog 119 #[.agg (secA f.page), .int .i64 1] w' fun e w'' => e = .returned (.int .u32 pg) ∧ Tch [] w3 w'') := fun w' ht => by
    rw [← HPG.out]; exact (pnumber_any f.page 1 (by omega) w').mono (by rintro e w'' ⟨h1, h2⟩; exact ⟨h1, ht.trans h2⟩)
  refine wp_region_walk (C := fun w' => Tch [] w3 w') 6 (by kernel_rfl) (by kernel_rfl) ((Tch.refl _ _).drew) ?_
  simp only [List.take_succ_cons, List.take_zero, List.drop_succ_cons, List.drop_zero]
  (repeat (first
      | ((with_reducible refine wq_load_framepage pageT.agg KF.out ?_ ?_ ?_); exact rfl; exact rfl; go_frame)
      | ((with_reducible refine wq_fn cf_number ?_ ?_ N0.out ?_); exact rfl; exact rfl; go_frame)
      | ((with_reducible refine wq_fn cf_number ?_ ?_ N1.out ?_); exact rfl; exact rfl; go_frame)
      | go_big_quiet_skip | (go_big_quiet_want; go_big_quiet_op; first | go_big_quiet_on | (refine ⟨_, fun _ _ => rfl, ?_⟩; go_big_quiet_on))))
  refine wpQuiet_nil ?_
  intro w6 ht6
  have T6 := Lib.hid (T3.out.trans ht6)
  have b6 := ht6.heap B3.out (by simp)
  have H6 := Lib.hid (H.out.touch T6.out (by simp) (by simp) (by simp) (by simp) (by simp))
  obtain ⟨q0, q1, q2, q3⟩ := frame_cell b6
  have c3 := H6.out.cell 3 rfl
  have B6 := Lib.hid b6
  have egm : (f.gen : Int).tmod 2 = (f.gen % 2 : Nat) := by rw [Int.tmod_eq_emod_of_nonneg (by omega)]; omega
  obtain ⟨gm, hgm⟩ : ∃ gm, f.gen % 2 = gm := ⟨_, rfl⟩
  rw [hgm] at egm
  have HGM := Lib.hid hgm
  have ei : IntKind.u64.wrap (i : Int) = i := by simp [IntKind.wrap, IntKind.bits, IntKind.signed]; omega
  clear KF N0 N1 B3 b6 ht6 hgm
  by_cases p1 : ob = true
  rotate_left
  · have E : Hid (S.chooses i s = S) := NO.out (fun hh => p1 (by rw [← HOB.out, decide_eq_true hh.1]))
    have pb : ob = false := by simpa using p1
    subst pb
    clear p1
    go_upto_region 3 with fail
    (refine wp_region_walk (C := fun w' => ∃ n, w' = World.drewN w6 n) 34 (by kernel_rfl) (by kernel_rfl) ⟨1, rfl⟩ ?_; simp only [List.take_succ_cons, List.take_zero, List.drop_succ_cons, List.drop_zero]; (repeat (first | fail | go_big_quiet_step (fail))); refine wpQuiet_nil ?_; intro _ hw'; obtain ⟨nq, hw''⟩ := hw'; subst hw'')
    go_wp2_with fail
    (try simp only [Exit.inBlock, Exit.then]); refine bodyPost_ret (results_none rfl _ _ _) rfl ?_
    rw [E.out]
    exact ⟨rfl, H6.out.touch (tch_drewN w6 nq) (by simp) (by simp) (by simp) (by simp) (by simp), (T6.out.trans (tch_drewN w6 nq)).mono (by simp)⟩
  subst p1
  by_cases p2 : f.kind = 1
  rotate_left
  · have E : Hid (S.chooses i s = S) := NO.out (fun hh => p2 hh.2.1)
    have pb : ((f.kind.toNat : Int) != 1) = true := by
      simp only [bne_iff_ne, ne_eq]
      intro e
      exact p2 (UInt8.toNat_inj.1 (by show f.kind.toNat = 1; omega))
    clear p2
    go_upto_region 3 with fail
    (refine wp_region_walk (C := fun w' => ∃ n, w' = World.drewN w6 n) 34 (by kernel_rfl) (by kernel_rfl) ⟨1, rfl⟩ ?_; simp only [List.take_succ_cons, List.take_zero, List.drop_succ_cons, List.drop_zero]; (repeat (first | fail | go_big_quiet_step (fail))); refine wpQuiet_nil ?_; intro _ hw'; obtain ⟨nq, hw''⟩ := hw'; subst hw'')
    go_wp2_with fail
    (try simp only [Exit.inBlock, Exit.then]); refine bodyPost_ret (results_none rfl _ _ _) rfl ?_
    rw [E.out]
    exact ⟨rfl, H6.out.touch (tch_drewN w6 nq) (by simp) (by simp) (by simp) (by simp) (by simp), (T6.out.trans (tch_drewN w6 nq)).mono (by simp)⟩
  have p2' : ((f.kind.toNat : Int) != 1) = false := by rw [p2]; rfl
  have P2 := Lib.hid p2
  clear p2
  by_cases p3 : f.num = 0
  rotate_left
  · have E : Hid (S.chooses i s = S) := NO.out (fun hh => p3 hh.2.2.1)
    have pb : ((f.num : Int) != 0) = true := by simp; omega
    clear p3
    go_upto_region 3 with fail
    (refine wp_region_walk (C := fun w' => ∃ n, w' = World.drewN w6 n) 34 (by kernel_rfl) (by kernel_rfl) ⟨1, rfl⟩ ?_; simp only [List.take_succ_cons, List.take_zero, List.drop_succ_cons, List.drop_zero]; (repeat (first | fail | go_big_quiet_step (fail))); refine wpQuiet_nil ?_; intro _ hw'; obtain ⟨nq, hw''⟩ := hw'; subst hw'')
    go_wp2_with fail
    (try simp only [Exit.inBlock, Exit.then]); refine bodyPost_ret (results_none rfl _ _ _) rfl ?_
    rw [E.out]
    exact ⟨rfl, H6.out.touch (tch_drewN w6 nq) (by simp) (by simp) (by simp) (by simp) (by simp), (T6.out.trans (tch_drewN w6 nq)).mono (by simp)⟩
  have p3' : ((f.num : Int) != 0) = false := by simp; omega
  have P3 := Lib.hid p3
  clear p3
  by_cases p4 : f.idx = 0
  rotate_left
  · have E : Hid (S.chooses i s = S) := NO.out (fun hh => p4 hh.2.2.2.1)
    have pb : ((f.idx : Int) != 0) = true := by simp; omega
    clear p4
    go_upto_region 3 with fail
    (refine wp_region_walk (C := fun w' => ∃ n, w' = World.drewN w6 n) 34 (by kernel_rfl) (by kernel_rfl) ⟨1, rfl⟩ ?_; simp only [List.take_succ_cons, List.take_zero, List.drop_succ_cons, List.drop_zero]; (repeat (first | fail | go_big_quiet_step (fail))); refine wpQuiet_nil ?_; intro _ hw'; obtain ⟨nq, hw''⟩ := hw'; subst hw'')
    go_wp2_with fail
    (try simp only [Exit.inBlock, Exit.then]); refine bodyPost_ret (results_none rfl _ _ _) rfl ?_
    rw [E.out]
    exact ⟨rfl, H6.out.touch (tch_drewN w6 nq) (by simp) (by simp) (by simp) (by simp) (by simp), (T6.out.trans (tch_drewN w6 nq)).mono (by simp)⟩
  have p4' : ((f.idx : Int) != 0) = false := by simp; omega
  have P4 := Lib.hid p4
  clear p4
  by_cases p5 : S.gen < f.gen
  rotate_left
  · have E : Hid (S.chooses i s = S) := NO.out (fun hh => p5 hh.2.2.2.2.1)
    have pb : (f.gen : Int) ≤ S.gen := by omega
    go_upto_region 3 with fail
    (refine wp_region_walk (C := fun w' => ∃ n, w' = World.drewN w6 n) 34 (by kernel_rfl) (by kernel_rfl) ⟨1, rfl⟩ ?_; simp only [List.take_succ_cons, List.take_zero, List.drop_succ_cons, List.drop_zero]; (repeat (first | fail | go_big_quiet_step (fail))); refine wpQuiet_nil ?_; intro _ hw'; obtain ⟨nq, hw''⟩ := hw'; subst hw'')
    go_wp2_with fail
    (try simp only [Exit.inBlock, Exit.then]); refine bodyPost_ret (results_none rfl _ _ _) rfl ?_
    rw [E.out]
    exact ⟨rfl, H6.out.touch (tch_drewN w6 nq) (by simp) (by simp) (by simp) (by simp) (by simp), (T6.out.trans (tch_drewN w6 nq)).mono (by simp)⟩
  have p5' : ¬ (f.gen : Int) ≤ S.gen := by omega
  by_cases p6 : gm = i
  rotate_left
  · have E : Hid (S.chooses i s = S) := NO.out (fun hh => p6 (by rw [← HGM.out]; exact hh.2.2.2.2.2.1))
    have pb : ((gm : Int) != i) = true := by simp; omega
    clear p6
    go_upto_region 3 with fail
    (refine wp_region_walk (C := fun w' => ∃ n, w' = World.drewN w6 n) 34 (by kernel_rfl) (by kernel_rfl) ⟨1, rfl⟩ ?_; simp only [List.take_succ_cons, List.take_zero, List.drop_succ_cons, List.drop_zero]; (repeat (first | fail | go_big_quiet_step (fail))); refine wpQuiet_nil ?_; intro _ hw'; obtain ⟨nq, hw''⟩ := hw'; subst hw'')
    go_wp2_with fail
    (try simp only [Exit.inBlock, Exit.then]); refine bodyPost_ret (results_none rfl _ _ _) rfl ?_
    rw [E.out]
    exact ⟨rfl, H6.out.touch (tch_drewN w6 nq) (by simp) (by simp) (by simp) (by simp) (by simp), (T6.out.trans (tch_drewN w6 nq)).mono (by simp)⟩
  have p6' : ((gm : Int) != i) = false := by simp; omega
  have P6 := Lib.hid p6
  clear p6
  go_upto_region 3 with fail
  (refine wp_region_walk (C := fun w' => ∃ n, w' = World.drewN w6 n) 34 (by kernel_rfl) (by kernel_rfl) ⟨1, rfl⟩ ?_; simp only [List.take_succ_cons, List.take_zero, List.drop_succ_cons, List.drop_zero]; (repeat (first | fail | go_big_quiet_step (fail))); refine wpQuiet_nil ?_; intro _ hw'; obtain ⟨nq, hw''⟩ := hw'; subst hw'')
  go_upto_region 4 with fail
  have T7 := Lib.hid (T6.out.trans (tch_drewN w6 nq))
  have H7 := Lib.hid (H6.out.touch (tch_drewN w6 nq) (by simp) (by simp) (by simp) (by simp) (by simp))
  have b7 := (tch_drewN w6 nq).heap B6.out (by simp)
  clear q0 q1 q2 q3 c3 T6 H6 B6 p2' p3' p4' p6' egm ei
  generalize w6.drewN nq = w7 at *
  have c0 := H7.out.cell 0 rfl
  have B7 := Lib.hid b7
  have HD := Lib.hid H7.out.hD
  have CSZ : Hid (∀ w', (∃ n, w' = World.drewN w7 n) → Calls Tryz.prog 63 #[.pointer (some ⟨d, 0, none⟩)] w' fun e w'' => e = .returned (.int .i64 len) ∧ ∃ n, w'' = World.drewN w7 n) := fun w' ⟨n, hn⟩ => by
    subst hn
    exact (size_any (HD.out.touch (tch_drewN w7 n) (by simp) (by simp) (by simp))).mono (by rintro e w'' ⟨h1, rfl⟩; exact ⟨by rw [h1, LEN.out], n, rfl⟩)
  clear b7
  by_cases q1 : 3 ≤ lg
  rotate_left
  · have E : Hid (S.chooses i s = S) := NO.out (fun hh => q1 hh.2.2.2.2.2.2.1)
    have pb : (lg : Int) < 3 := by omega
    (refine wp_region_walk (C := fun w' => ∃ n, w' = World.drewN w7 n) 36 (by kernel_rfl) (by kernel_rfl) ⟨1, rfl⟩ ?_; simp only [List.take_succ_cons, List.take_zero, List.drop_succ_cons, List.drop_zero]; (repeat (first | ((with_reducible refine wq_fn cf_size ?_ ?_ CSZ.out ?_); exact rfl; exact rfl; go_frame) | go_big_quiet_step (fail))); refine wpQuiet_nil ?_; intro _ hw'; obtain ⟨nq, hw''⟩ := hw'; subst hw'')
    go_wp2_with fail
    (try simp only [Exit.inBlock, Exit.then]); refine bodyPost_ret (results_none rfl _ _ _) rfl ?_
    rw [E.out]
    exact ⟨rfl, H7.out.touch (tch_drewN w7 nq) (by simp) (by simp) (by simp) (by simp) (by simp), (T7.out.trans (tch_drewN w7 nq)).mono (by simp)⟩
  have q1' : ¬ (lg : Int) < 3 := by omega
  by_cases q2 : lg ≤ 4000
  rotate_left
  · have E : Hid (S.chooses i s = S) := NO.out (fun hh => q2 hh.2.2.2.2.2.2.2.1)
    have pb : (4000 : Int) < lg := by omega
    (refine wp_region_walk (C := fun w' => ∃ n, w' = World.drewN w7 n) 36 (by kernel_rfl) (by kernel_rfl) ⟨1, rfl⟩ ?_; simp only [List.take_succ_cons, List.take_zero, List.drop_succ_cons, List.drop_zero]; (repeat (first | ((with_reducible refine wq_fn cf_size ?_ ?_ CSZ.out ?_); exact rfl; exact rfl; go_frame) | go_big_quiet_step (fail))); refine wpQuiet_nil ?_; intro _ hw'; obtain ⟨nq, hw''⟩ := hw'; subst hw'')
    go_wp2_with fail
    (try simp only [Exit.inBlock, Exit.then]); refine bodyPost_ret (results_none rfl _ _ _) rfl ?_
    rw [E.out]
    exact ⟨rfl, H7.out.touch (tch_drewN w7 nq) (by simp) (by simp) (by simp) (by simp) (by simp), (T7.out.trans (tch_drewN w7 nq)).mono (by simp)⟩
  have q2' : ¬ (4000 : Int) < lg := by omega
  by_cases q3 : 1 ≤ pg
  rotate_left
  · have E : Hid (S.chooses i s = S) := NO.out (fun hh => q3 hh.2.2.2.2.2.2.2.2.1)
    have pb : (pg : Int) < 1 := by omega
    (refine wp_region_walk (C := fun w' => ∃ n, w' = World.drewN w7 n) 36 (by kernel_rfl) (by kernel_rfl) ⟨1, rfl⟩ ?_; simp only [List.take_succ_cons, List.take_zero, List.drop_succ_cons, List.drop_zero]; (repeat (first | ((with_reducible refine wq_fn cf_size ?_ ?_ CSZ.out ?_); exact rfl; exact rfl; go_frame) | go_big_quiet_step (fail))); refine wpQuiet_nil ?_; intro _ hw'; obtain ⟨nq, hw''⟩ := hw'; subst hw'')
    go_wp2_with fail
    (try simp only [Exit.inBlock, Exit.then]); refine bodyPost_ret (results_none rfl _ _ _) rfl ?_
    rw [E.out]
    exact ⟨rfl, H7.out.touch (tch_drewN w7 nq) (by simp) (by simp) (by simp) (by simp) (by simp), (T7.out.trans (tch_drewN w7 nq)).mono (by simp)⟩
  have q3' : ¬ (pg : Int) < 1 := by omega
  by_cases q4 : pg ≤ 16384
  rotate_left
  · have E : Hid (S.chooses i s = S) := NO.out (fun hh => q4 hh.2.2.2.2.2.2.2.2.2.1)
    have pb : (16384 : Int) < pg := by omega
    (refine wp_region_walk (C := fun w' => ∃ n, w' = World.drewN w7 n) 36 (by kernel_rfl) (by kernel_rfl) ⟨1, rfl⟩ ?_; simp only [List.take_succ_cons, List.take_zero, List.drop_succ_cons, List.drop_zero]; (repeat (first | ((with_reducible refine wq_fn cf_size ?_ ?_ CSZ.out ?_); exact rfl; exact rfl; go_frame) | go_big_quiet_step (fail))); refine wpQuiet_nil ?_; intro _ hw'; obtain ⟨nq, hw''⟩ := hw'; subst hw'')
    go_wp2_with fail
    (try simp only [Exit.inBlock, Exit.then]); refine bodyPost_ret (results_none rfl _ _ _) rfl ?_
    rw [E.out]
    exact ⟨rfl, H7.out.touch (tch_drewN w7 nq) (by simp) (by simp) (by simp) (by simp) (by simp), (T7.out.trans (tch_drewN w7 nq)).mono (by simp)⟩
  have q4' : ¬ (16384 : Int) < pg := by omega
  have W71 : IntKind.u32.wrap ((2 : Int) + lg) = 2 + lg := by simp [IntKind.wrap, IntKind.bits, IntKind.signed]; omega
  have W73 : IntKind.u32.wrap ((2 : Int) + lg + pg) = 2 + lg + pg := by simp [IntKind.wrap, IntKind.bits, IntKind.signed]; omega
  have W74 : IntKind.i64.wrap ((2 : Int) + lg + pg) = 2 + lg + pg := by simp [IntKind.wrap, IntKind.bits, IntKind.signed]; omega
  by_cases q5 : 2 + lg + pg = len
  rotate_left
  · have E : Hid (S.chooses i s = S) := NO.out (fun hh => q5 hh.2.2.2.2.2.2.2.2.2.2.1)
    have pb : ((2 + (lg : Int) + pg) != len) = true := by simp; omega
    (refine wp_region_walk (C := fun w' => ∃ n, w' = World.drewN w7 n) 36 (by kernel_rfl) (by kernel_rfl) ⟨1, rfl⟩ ?_; simp only [List.take_succ_cons, List.take_zero, List.drop_succ_cons, List.drop_zero]; (repeat (first | ((with_reducible refine wq_fn cf_size ?_ ?_ CSZ.out ?_); exact rfl; exact rfl; go_frame) | go_big_quiet_step (fail))); refine wpQuiet_nil ?_; intro _ hw'; obtain ⟨nq, hw''⟩ := hw'; subst hw'')
    go_wp2_with fail
    (try simp only [Exit.inBlock, Exit.then]); refine bodyPost_ret (results_none rfl _ _ _) rfl ?_
    rw [E.out]
    exact ⟨rfl, H7.out.touch (tch_drewN w7 nq) (by simp) (by simp) (by simp) (by simp) (by simp), (T7.out.trans (tch_drewN w7 nq)).mono (by simp)⟩
  have q5' : ((2 + (lg : Int) + pg) != len) = false := by simp; omega
  clear CSZ
  have pgx : f.page = f.page := rfl
  refine wp_region_valt 34 (fun w' => Tch [] w7 w') (KCho g d F lg pg len f.page) (by kernel_rfl) (by kernel_rfl) (by kernel_rfl) ((Tch.refl _ _).drew) (fun w4 w5 _ _ ht i v hk => hk.later ht) ?_ ?_
  · intro i o hi ho fu w' hC hold hdep
    have c0' := cell_old hC c0
    have hi7 : i = 0 ∨ i = 1 ∨ i = 2 ∨ i = 3 ∨ i = 4 ∨ i = 5 ∨ i = 6 ∨ i = 7 ∨ i = 8 ∨ i = 9 ∨ i = 10 ∨ i = 11 ∨ i = 12 ∨ i = 13 ∨ i = 14 ∨ i = 15 ∨ i = 16 ∨ i = 17 ∨ i = 18 ∨ i = 19 ∨ i = 20 ∨ i = 21 ∨ i = 22 ∨ i = 23 ∨ i = 24 ∨ i = 25 ∨ i = 26 ∨ i = 27 ∨ i = 28 ∨ i = 29 ∨ i = 30 ∨ i = 31 ∨ i = 32 ∨ i = 33 := by omega
    rcases hi7 with rfl | rfl | rfl | rfl | rfl | rfl | rfl | rfl | rfl | rfl | rfl | rfl | rfl | rfl | rfl | rfl | rfl | rfl | rfl | rfl | rfl | rfl | rfl | rfl | rfl | rfl | rfl | rfl | rfl | rfl | rfl | rfl | rfl | rfl
    all_goals (simp only [List.getElem?_cons_zero, List.getElem?_cons_succ, Option.some.injEq] at ho; subst ho)
    · refine step_plain rfl ?_
      have x8 : fu.tmps[8]?.getD undef = .int .u32 lg := ev_tmp (hold 8 (by show _ < 106; omega) (by kernel_rfl))
      go_simp
      exact ⟨rfl, Tch.refl _ _⟩
    · refine step_plain rfl ?_
      have x55 : fu.tmps[55]?.getD undef = .int .u32 lg := ev_tmp (hdep 0 55 (by show _ < 106; omega) (by kernel_rfl) (by kernel_rfl))
      go_simp
      exact ⟨rfl, Tch.refl _ _⟩
    · refine step_plain rfl ?_
      have x56 : fu.tmps[56]?.getD undef = .bool false := ev_tmp (hdep 1 56 (by show _ < 106; omega) (by kernel_rfl) (by kernel_rfl))
      go_simp
      exact ⟨rfl, Tch.refl _ _⟩
    · refine step_guard (d := 57) rfl (by kernel_rfl) (ev_tmp (hdep 2 57 (by show _ < 106; omega) (by kernel_rfl) (by kernel_rfl))) ?_
      have x8 : fu.tmps[8]?.getD undef = .int .u32 lg := ev_tmp (hold 8 (by show _ < 106; omega) (by kernel_rfl))
      go_simp
      exact ⟨rfl, Tch.refl _ _⟩
    · refine step_guard (d := 57) rfl (by kernel_rfl) (ev_tmp (hdep 2 57 (by show _ < 106; omega) (by kernel_rfl) (by kernel_rfl))) ?_
      have x58 : fu.tmps[58]?.getD undef = .int .u32 lg := ev_tmp (hdep 3 58 (by show _ < 106; omega) (by kernel_rfl) (by kernel_rfl))
      go_simp
      exact ⟨rfl, Tch.refl _ _⟩
    · refine step_plain rfl ?_
      have x57 : fu.tmps[57]?.getD undef = .bool false := ev_tmp (hdep 2 57 (by show _ < 106; omega) (by kernel_rfl) (by kernel_rfl))
      have x59 : fu.tmps[59]?.getD undef = .bool false := ev_tmp (hdep 4 59 (by show _ < 106; omega) (by kernel_rfl) (by kernel_rfl))
      go_simp
      exact ⟨rfl, Tch.refl _ _⟩
    · refine step_plain rfl ?_
      have x60 : fu.tmps[60]?.getD undef = .bool false := ev_tmp (hdep 5 60 (by show _ < 106; omega) (by kernel_rfl) (by kernel_rfl))
      go_simp
      exact ⟨rfl, Tch.refl _ _⟩
    · refine step_guard (d := 61) rfl (by kernel_rfl) (ev_tmp (hdep 6 61 (by show _ < 106; omega) (by kernel_rfl) (by kernel_rfl))) ?_
      have x9 : fu.tmps[9]?.getD undef = .int .u32 pg := ev_tmp (hold 9 (by show _ < 106; omega) (by kernel_rfl))
      go_simp
      exact ⟨rfl, Tch.refl _ _⟩
    · refine step_guard (d := 61) rfl (by kernel_rfl) (ev_tmp (hdep 6 61 (by show _ < 106; omega) (by kernel_rfl) (by kernel_rfl))) ?_
      have x62 : fu.tmps[62]?.getD undef = .int .u32 pg := ev_tmp (hdep 7 62 (by show _ < 106; omega) (by kernel_rfl) (by kernel_rfl))
      go_simp
      exact ⟨rfl, Tch.refl _ _⟩
    · refine step_plain rfl ?_
      have x61 : fu.tmps[61]?.getD undef = .bool false := ev_tmp (hdep 6 61 (by show _ < 106; omega) (by kernel_rfl) (by kernel_rfl))
      have x63 : fu.tmps[63]?.getD undef = .bool false := ev_tmp (hdep 8 63 (by show _ < 106; omega) (by kernel_rfl) (by kernel_rfl))
      go_simp
      exact ⟨rfl, Tch.refl _ _⟩
    · refine step_plain rfl ?_
      have x64 : fu.tmps[64]?.getD undef = .bool false := ev_tmp (hdep 9 64 (by show _ < 106; omega) (by kernel_rfl) (by kernel_rfl))
      go_simp
      exact ⟨rfl, Tch.refl _ _⟩
    · refine step_guard (d := 65) rfl (by kernel_rfl) (ev_tmp (hdep 10 65 (by show _ < 106; omega) (by kernel_rfl) (by kernel_rfl))) ?_
      have x9 : fu.tmps[9]?.getD undef = .int .u32 pg := ev_tmp (hold 9 (by show _ < 106; omega) (by kernel_rfl))
      go_simp
      exact ⟨rfl, Tch.refl _ _⟩
    · refine step_guard (d := 65) rfl (by kernel_rfl) (ev_tmp (hdep 10 65 (by show _ < 106; omega) (by kernel_rfl) (by kernel_rfl))) ?_
      have x66 : fu.tmps[66]?.getD undef = .int .u32 pg := ev_tmp (hdep 11 66 (by show _ < 106; omega) (by kernel_rfl) (by kernel_rfl))
      go_simp
      exact ⟨rfl, Tch.refl _ _⟩
    · refine step_plain rfl ?_
      have x65 : fu.tmps[65]?.getD undef = .bool false := ev_tmp (hdep 10 65 (by show _ < 106; omega) (by kernel_rfl) (by kernel_rfl))
      have x67 : fu.tmps[67]?.getD undef = .bool false := ev_tmp (hdep 12 67 (by show _ < 106; omega) (by kernel_rfl) (by kernel_rfl))
      go_simp
      exact ⟨rfl, Tch.refl _ _⟩
    · refine step_plain rfl ?_
      have x68 : fu.tmps[68]?.getD undef = .bool false := ev_tmp (hdep 13 68 (by show _ < 106; omega) (by kernel_rfl) (by kernel_rfl))
      go_simp
      exact ⟨rfl, Tch.refl _ _⟩
    · refine step_guard (d := 69) rfl (by kernel_rfl) (ev_tmp (hdep 14 69 (by show _ < 106; omega) (by kernel_rfl) (by kernel_rfl))) ?_
      have x8 : fu.tmps[8]?.getD undef = .int .u32 lg := ev_tmp (hold 8 (by show _ < 106; omega) (by kernel_rfl))
      go_simp
      exact ⟨rfl, Tch.refl _ _⟩
    · refine step_guard (d := 69) rfl (by kernel_rfl) (ev_tmp (hdep 14 69 (by show _ < 106; omega) (by kernel_rfl) (by kernel_rfl))) ?_
      have x70 : fu.tmps[70]?.getD undef = .int .u32 lg := ev_tmp (hdep 15 70 (by show _ < 106; omega) (by kernel_rfl) (by kernel_rfl))
      go_simp
      exact ⟨rfl, Tch.refl _ _⟩
    · refine step_guard (d := 69) rfl (by kernel_rfl) (ev_tmp (hdep 14 69 (by show _ < 106; omega) (by kernel_rfl) (by kernel_rfl))) ?_
      have x9 : fu.tmps[9]?.getD undef = .int .u32 pg := ev_tmp (hold 9 (by show _ < 106; omega) (by kernel_rfl))
      go_simp
      exact ⟨rfl, Tch.refl _ _⟩
    · refine step_guard (d := 69) rfl (by kernel_rfl) (ev_tmp (hdep 14 69 (by show _ < 106; omega) (by kernel_rfl) (by kernel_rfl))) ?_
      have x71 : fu.tmps[71]?.getD undef = .int .u32 (2 + lg) := ev_tmp (hdep 16 71 (by show _ < 106; omega) (by kernel_rfl) (by kernel_rfl))
      have x72 : fu.tmps[72]?.getD undef = .int .u32 pg := ev_tmp (hdep 17 72 (by show _ < 106; omega) (by kernel_rfl) (by kernel_rfl))
      go_simp
      exact ⟨rfl, Tch.refl _ _⟩
    · refine step_guard (d := 69) rfl (by kernel_rfl) (ev_tmp (hdep 14 69 (by show _ < 106; omega) (by kernel_rfl) (by kernel_rfl))) ?_
      have x73 : fu.tmps[73]?.getD undef = .int .u32 (2 + lg + pg) := ev_tmp (hdep 18 73 (by show _ < 106; omega) (by kernel_rfl) (by kernel_rfl))
      go_simp
      exact ⟨rfl, Tch.refl _ _⟩
    · refine step_guard (d := 69) rfl (by kernel_rfl) (ev_tmp (hdep 14 69 (by show _ < 106; omega) (by kernel_rfl) (by kernel_rfl))) ?_
      have x0 : fu.tmps[0]?.getD undef = .pointer (some ⟨g, 0, none⟩) := ev_tmp (hold 0 (by show _ < 106; omega) (by kernel_rfl))
      go_simp
      exact ⟨rfl, Tch.refl _ _⟩
    · refine step_guard (d := 69) rfl (by kernel_rfl) (ev_tmp (hdep 14 69 (by show _ < 106; omega) (by kernel_rfl) (by kernel_rfl))) ?_
      have x75 : fu.tmps[75]?.getD undef = .pointer (some ⟨g, 0, none⟩) := ev_tmp (hdep 20 75 (by show _ < 106; omega) (by kernel_rfl) (by kernel_rfl))
      go_simp
      exact ⟨rfl, Tch.refl _ _⟩
    · refine step_guard (d := 69) rfl (by kernel_rfl) (ev_tmp (hdep 14 69 (by show _ < 106; omega) (by kernel_rfl) (by kernel_rfl))) ?_
      have x76 : fu.tmps[76]?.getD undef = .pointer (some ⟨g, 0, none⟩) := ev_tmp (hdep 21 76 (by show _ < 106; omega) (by kernel_rfl) (by kernel_rfl))
      go_simp
      exact ⟨rfl, Tch.refl _ _⟩
    · refine step_guard (d := 69) rfl (by kernel_rfl) (ev_tmp (hdep 14 69 (by show _ < 106; omega) (by kernel_rfl) (by kernel_rfl))) ?_
      have x77 : fu.tmps[77]?.getD undef = .pointer (some ⟨g, 0, none⟩) := ev_tmp (hdep 22 77 (by show _ < 106; omega) (by kernel_rfl) (by kernel_rfl))
      go_simp
      exact ⟨rfl, Tch.refl _ _⟩
    · refine step_guard (d := 69) rfl (by kernel_rfl) (ev_tmp (hdep 14 69 (by show _ < 106; omega) (by kernel_rfl) (by kernel_rfl))) ?_
      have x78 : fu.tmps[78]?.getD undef = .pointer (some ⟨d, 0, none⟩) := ev_tmp (hdep 23 78 (by show _ < 106; omega) (by kernel_rfl) (by kernel_rfl))
      go_simp
      refine (size_any (HD.out.touch hC (by simp) (by simp) (by simp))).mono ?_
      rintro e w5 ⟨rfl, rfl⟩
      exact ⟨_, rfl, by rw [LEN.out]; rfl, hC, Tch.refl _ _⟩
    · refine step_guard (d := 69) rfl (by kernel_rfl) (ev_tmp (hdep 14 69 (by show _ < 106; omega) (by kernel_rfl) (by kernel_rfl))) ?_
      have x74 : fu.tmps[74]?.getD undef = .int .i64 (2 + lg + pg) := ev_tmp (hdep 19 74 (by show _ < 106; omega) (by kernel_rfl) (by kernel_rfl))
      have x79 : fu.tmps[79]?.getD undef = .int .i64 len := ev_tmp (hdep 24 79 (by show _ < 106; omega) (by kernel_rfl) (by kernel_rfl))
      go_simp
      exact ⟨rfl, Tch.refl _ _⟩
    · refine step_plain rfl ?_
      have x69 : fu.tmps[69]?.getD undef = .bool false := ev_tmp (hdep 14 69 (by show _ < 106; omega) (by kernel_rfl) (by kernel_rfl))
      have x80 : fu.tmps[80]?.getD undef = .bool false := ev_tmp (hdep 25 80 (by show _ < 106; omega) (by kernel_rfl) (by kernel_rfl))
      go_simp
      exact ⟨rfl, Tch.refl _ _⟩
    · refine step_plain rfl ?_
      have x81 : fu.tmps[81]?.getD undef = .bool false := ev_tmp (hdep 26 81 (by show _ < 106; omega) (by kernel_rfl) (by kernel_rfl))
      go_simp
      exact ⟨rfl, Tch.refl _ _⟩
    · refine step_guard (d := 82) rfl (by kernel_rfl) (ev_tmp (hdep 27 82 (by show _ < 106; omega) (by kernel_rfl) (by kernel_rfl))) ?_
      have x6 : fu.tmps[6]?.getD undef = .pointer (some ⟨F, 0, none⟩) := ev_tmp (hold 6 (by show _ < 106; omega) (by kernel_rfl))
      go_simp
      exact ⟨rfl, Tch.refl _ _⟩
    · refine step_guard (d := 82) rfl (by kernel_rfl) (ev_tmp (hdep 27 82 (by show _ < 106; omega) (by kernel_rfl) (by kernel_rfl))) ?_
      have x83 : fu.tmps[83]?.getD undef = .pointer (some ⟨F, 4, none⟩) := ev_tmp (hdep 28 83 (by show _ < 106; omega) (by kernel_rfl) (by kernel_rfl))
      have x83' : fu.eval (.tmp 83) = .pointer (some ⟨F, 4, none⟩) := by show fu.tmps.getD 83 undef = _; rw [Array.getD_eq_getD_getElem?]; exact x83
      exact stpR_ok (exec_load_framepage pageT.agg rfl (hC.heap B7.out (by simp)) x83') ⟨rfl, hC, Tch.refl _ _⟩
    · refine step_guard (d := 82) rfl (by kernel_rfl) (ev_tmp (hdep 27 82 (by show _ < 106; omega) (by kernel_rfl) (by kernel_rfl))) ?_
      have x8 : fu.tmps[8]?.getD undef = .int .u32 lg := ev_tmp (hold 8 (by show _ < 106; omega) (by kernel_rfl))
      go_simp
      exact ⟨rfl, Tch.refl _ _⟩
    · refine step_guard (d := 82) rfl (by kernel_rfl) (ev_tmp (hdep 27 82 (by show _ < 106; omega) (by kernel_rfl) (by kernel_rfl))) ?_
      have x9 : fu.tmps[9]?.getD undef = .int .u32 pg := ev_tmp (hold 9 (by show _ < 106; omega) (by kernel_rfl))
      go_simp
      exact ⟨rfl, Tch.refl _ _⟩
    · refine step_guard (d := 82) rfl (by kernel_rfl) (ev_tmp (hdep 27 82 (by show _ < 106; omega) (by kernel_rfl) (by kernel_rfl))) ?_
      have x85 : fu.tmps[85]?.getD undef = .int .u32 lg := ev_tmp (hdep 30 85 (by show _ < 106; omega) (by kernel_rfl) (by kernel_rfl))
      have x86 : fu.tmps[86]?.getD undef = .int .u32 pg := ev_tmp (hdep 31 86 (by show _ < 106; omega) (by kernel_rfl) (by kernel_rfl))
      go_simp
      exact ⟨⟨_, rfl, nums_two _ _ _⟩, hC.alloc _, (Tch.refl _ _).alloc _⟩
    · refine step_guard (d := 82) rfl (by kernel_rfl) (ev_tmp (hdep 27 82 (by show _ < 106; omega) (by kernel_rfl) (by kernel_rfl))) ?_
      have x87 := hdep 32 87 (by show _ < 106; omega) (by kernel_rfl) (by kernel_rfl)
      obtain ⟨k, e19, h19⟩ := x87
      have x87 := ev_tmp e19
      have HN := Lib.hid (numbers_any (cap := 2) h19 (by simp) (by simp; omega))
      clear h19
      go_simp
      refine HN.out.mono ?_
      rintro e w5 ⟨rfl, q2⟩
      exact ⟨_, rfl, rfl, hC.trans q2, q2⟩
  · intro vs w8 hC hK
    have x27 : vs 27 = .bool false := hK 27 (by omega)
    have x29 : vs 29 = .agg (secA f.page) := hK 29 (by omega)
    have x33 : vs 33 = .agg (secA (numsPage [lg, pg])) := hK 33 (by omega)
    have X27 := Lib.hid x27
    have X29 := Lib.hid x29
    have X33 := Lib.hid x33
    have T8 := Lib.hid (T7.out.trans hC)
    have H8 := Lib.hid (H7.out.touch hC (by simp) (by simp) (by simp) (by simp) (by simp))
    have b8 := hC.heap B7.out (by simp)
    have r1 := (frame_cell b8).2.1
    clear hK hC x27 x29 x33 b8 c0
    unfold fullOf
    rw [show (List.range 34).map vs = [vs 0, vs 1, vs 2, vs 3, vs 4, vs 5, vs 6, vs 7, vs 8, vs 9, vs 10, vs 11, vs 12, vs 13, vs 14, vs 15, vs 16, vs 17, vs 18, vs 19, vs 20, vs 21, vs 22, vs 23, vs 24, vs 25, vs 26, vs 27, vs 28, vs 29, vs 30, vs 31, vs 32, vs 33] from rfl, X27.out, X29.out, X33.out]
    generalize vs 0 = v0
    generalize vs 1 = v1
    generalize vs 2 = v2
    generalize vs 3 = v3
    generalize vs 4 = v4
    generalize vs 5 = v5
    generalize vs 6 = v6
    generalize vs 7 = v7
    generalize vs 8 = v8
    generalize vs 9 = v9
    generalize vs 10 = v10
    generalize vs 11 = v11
    generalize vs 12 = v12
    generalize vs 13 = v13
    generalize vs 14 = v14
    generalize vs 15 = v15
    generalize vs 16 = v16
    generalize vs 17 = v17
    generalize vs 18 = v18
    generalize vs 19 = v19
    generalize vs 20 = v20
    generalize vs 21 = v21
    generalize vs 22 = v22
    generalize vs 23 = v23
    generalize vs 24 = v24
    generalize vs 25 = v25
    generalize vs 26 = v26
    generalize vs 28 = v28
    generalize vs 30 = v30
    generalize vs 31 = v31
    generalize vs 32 = v32
    clear X27 X29 X33 vs
    simp only [List.take_succ_cons, List.take_zero, List.drop_succ_cons, List.drop_zero, putAll]
    go_frame
    by_cases q6 : f.page = numsPage [lg, pg]
    · have hb : decide (f.page = numsPage [lg, pg]) = true := by simp [← q6]
      have E : Hid (S.chooses i s = { S with gen := f.gen, log := lg, pages := pg }) := YES.out ⟨of_decide_eq_true HOB.out, P2.out, P3.out, P4.out, p5, by rw [HGM.out]; exact P6.out, q1, q2, q3, q4, q5, q6⟩
      have hg8 := lt_of_heap H8.out.hg
      have f3 := H8.out.froz 3
      have f1 := H8.out.froz 1
      have f2 := H8.out.froz 2
      have c3 := H8.out.cell 3 rfl
      have c1 := H8.out.cell 1 rfl
      have c2 := H8.out.cell 2 rfl
      clear q6
      refine wcg_neq_arr pageT (s := f.page) (t := numsPage [lg, pg]) rfl rfl rfl ?_
      rw [hb]
      go_frame
      go_wp2_with fail
      go_end0
      have hh := H8.out
      have ht : Tch [g] w8 (((w8.setCell ⟨g, 3, none⟩ (.int .u64 f.gen)).setCell ⟨g, 1, none⟩ (.int .i64 lg)).setCell ⟨g, 2, none⟩ (.int .i64 pg)) := (((Tch.refl _ _).setCell (by simp) _).setCell (by simp) _).setCell (by simp) _
      rw [E.out]
      refine ⟨rfl, ⟨?_, hh.hD.touch ht (by simpa using hh.gd.symm) (by simpa using hh.gL.symm) (by simpa using hh.gM.symm), hh.hV.touch ht (by simpa using hh.gV.symm), hh.gd, hh.gL, hh.gM, hh.gV, hh.dV, hh.LV, hh.MV⟩, (T8.out.mono (by simp)).trans ht⟩
      rw [heap_setCell_cells (heap_setCell_cells (heap_setCell_cells hh.hg _ _) _ _) _ _]; rfl
    · have hb : decide (f.page = numsPage [lg, pg]) = false := by simp [q6]
      have E : Hid (S.chooses i s = S) := NO.out (fun hh => q6 hh.2.2.2.2.2.2.2.2.2.2.2)
      clear q6
      refine wcg_neq_arr pageT (s := f.page) (t := numsPage [lg, pg]) rfl rfl rfl ?_
      rw [hb]
      go_frame
      go_wp2_with fail
      (try simp only [Exit.inBlock, Exit.then]); refine bodyPost_ret (results_none rfl _ _ _) rfl ?_
      rw [E.out]
      exact ⟨rfl, H8.out, T8.out.mono (by simp)⟩
end Go.Proofs.YtkjgbhpnlgcinaaGreatDoor
