/-
  Behind a failure of the power each sector has what was flushed or what was pending, whole, as it was chosen: the walk of DiskChoice.
-/
import Derived.Test.YtpfgjopiddopbaaLasts
namespace Go.Proofs.Ytpfgjopiddopbaa
open Go.RowKit Go.Cib

set_option maxRecDepth 20000 in
theorem diskChoice_big (w : World) (n : Int) (v1 v2 : Value) (hn : 1000 < n) :
    Calls Try.prog 6 #[.int .i64 n, v1, v2] w fun e w' => e = .returned (.bool true) ∧ Tch [] w w' := by
  go_enter Try.func6, Try.ntmps6
  go_wp2_with (go_at_call 19; refine (works_any _).mono ?_; rintro e w' ⟨rfl, hq1⟩; have HQ := Lib.hid hq1; clear hq1)
  go_ret
  exact ⟨rfl, HQ.out⟩
set_option maxRecDepth 20000 in
theorem diskChoice_no (w : World) (n : Int) (v1 v2 : Value) (hn : n < 1) :
    Calls Try.prog 6 #[.int .i64 n, v1, v2] w fun e w' => e = .returned (.bool true) ∧ Tch [] w w' := by
  have h1 : ¬ 1000 < n := by omega
  go_enter Try.func6, Try.ntmps6
  go_wp2_with (first | (go_at_call 10; refine (new_no _ n (.inl hn)).mono ?_; rintro e w' ⟨rfl, rfl⟩) | (go_at_call 19; refine (works_any _).mono ?_; rintro e w' ⟨rfl, hq1⟩; have HQ := Lib.hid hq1; clear hq1))
  go_ret
  exact ⟨rfl, HQ.out⟩

/-- Which numbers are on a list. -/
def marks (n : Nat) (l : List Int) : List Bool := (List.range n).map fun (i : Nat) => decide ((i : Int) ∈ l)
theorem marks_len (n : Nat) (l : List Int) : (marks n l).length = n := by simp [marks]
theorem marks_get {n : Nat} (l : List Int) {i : Nat} (h : i < n) : (marks n l)[i]? = some (decide ((i : Int) ∈ l)) := by simp [marks, h]
theorem marks_nil (n : Nat) : marks n [] = List.replicate n false := by
  unfold marks
  apply List.ext_getElem?
  intro i
  by_cases h : i < n
  · simp [h]
  · simp [h]
theorem marks_snoc (n : Nat) (l : List Int) (k : Nat) : marks n (l ++ [(k : Int)]) = (marks n l).set k true := by
  apply List.ext_getElem?
  intro i
  rw [List.getElem?_set, marks_len]
  by_cases h : i < n
  · rw [marks_get _ h, marks_get _ h]
    by_cases e : k = i
    · subst e; simp [h]
    · have e' : ¬ (i : Int) = (k : Int) := by omega
      simp [e, e']
  · have h1 : ∀ l, (marks n l)[i]? = none := fun l => List.getElem?_eq_none (by rw [marks_len]; omega)
    rw [h1, h1]
    split
    · rw [if_neg (by omega)]
    · rfl
theorem IntsAt.touch' {w w' : World} {a : Option Addr} {l : List Int} {S : List Nat} (h : IntsAt w a l) (ht : Tch S w w') (hn : ∀ x, l ≠ [] → a = some x → x.block ∉ S) : IntsAt w' a l := by
  intro j x hj
  obtain ⟨b, o, ha, hc⟩ := h j x hj
  refine ⟨b, o, ha, ?_⟩
  have hb : b ∉ S := hn _ (by intro e; subst e; simp at hj) ha
  rw [World.cell?_of_block (w := w) (ht.block b (block_lt_of_cell hc) hb)]
  exact hc

/-- The list of what was flushed, the list of what is wanted, the marks of what waits, and the disk. -/
structure CW (w0 w : World) (d L M : Nat) (D : DiskS) (kb : Nat) (pa : Option Addr) (P : List Int) (wb : Nat) (ws : List Sec) (mb : Nat) (bs : List Bool) (B : List (Nat × Obj)) : Prop where
  so : Solo w0 w d L M D [kb, wb, mb] B
  sk : SecsIn w kb D.lasts
  pp : IntsAt w pa P
  pn : ∀ x, P ≠ [] → pa = some x → x.block ≠ wb ∧ x.block ≠ mb
  wt : w.heap[wb]? = some (.cells (secsA ws) 33)
  mt : BoolsAt w mb bs
  n1 : kb ≠ wb
  n2 : kb ≠ mb
  n3 : wb ≠ mb
section
variable {w0 w w' : World} {d L M : Nat} {D : DiskS} {kb wb mb : Nat} {pa : Option Addr} {P : List Int} {ws : List Sec} {bs : List Bool} {B B' : List (Nat × Obj)}
theorem CW.same (h : CW w0 w d L M D kb pa P wb ws mb bs B) (ht : Tch [] w w') : CW w0 w' d L M D kb pa P wb ws mb bs B :=
  ⟨h.so.same ht, h.sk.touch ht (by simp), h.pp.touch' ht (by simp), h.pn, ht.heap h.wt (by simp), h.mt.touch ht (by simp), h.n1, h.n2, h.n3⟩
theorem CW.put (h : CW w0 w d L M D kb pa P wb ws mb bs B) (o : Obj) : CW w0 (w.alloc o) d L M D kb pa P wb ws mb bs ((w.heap.size, o) :: B) := by
  have h' := h.same ((Tch.refl [] w).alloc o)
  exact ⟨h.so.put o, h'.sk, h'.pp, h.pn, h'.wt, h'.mt, h.n1, h.n2, h.n3⟩
theorem CW.drop (h : CW w0 w d L M D kb pa P wb ws mb bs B) (hb : ∀ x ∈ B', x ∈ B) : CW w0 w d L M D kb pa P wb ws mb bs B' := ⟨h.so.drop hb, h.sk, h.pp, h.pn, h.wt, h.mt, h.n1, h.n2, h.n3⟩
theorem CW.want (h : CW w0 w d L M D kb pa P wb ws mb bs B) (ws' : List Sec) : CW w0 (w.setRow wb (secsA ws')) d L M D kb pa P wb ws' mb bs B := by
  have ht : Tch [wb] w (w.setRow wb (secsA ws')) := (Tch.refl _ _).setRow (by simp) _
  exact ⟨h.so.side (by simp) ht, h.sk.touch ht (by simpa using h.n1), h.pp.touch' ht (fun x e1 e2 => by simpa using (h.pn x e1 e2).1), h.pn, setRow_heap _ _ _ _ _ _ h.wt, h.mt.touch ht (by simpa using h.n3.symm), h.n1, h.n2, h.n3⟩
theorem CW.mark (h : CW w0 w d L M D kb pa P wb ws mb bs B) (i : Nat) : CW w0 (w.setCell ⟨mb, i, none⟩ (.bool true)) d L M D kb pa P wb ws mb (bs.set i true) B := by
  have ht : Tch [mb] w (w.setCell ⟨mb, i, none⟩ (.bool true)) := (Tch.refl _ _).setCell (by simp) _
  exact ⟨h.so.side (by simp) ht, h.sk.touch ht (by simpa using h.n2), h.pp.touch' ht (fun x e1 e2 => by simpa using (h.pn x e1 e2).2), h.pn, ht.heap h.wt (by simpa using h.n3), h.mt.mark i true, h.n1, h.n2, h.n3⟩
end
theorem alive_on_len {D : DiskS} (h : D.dead = true) : (D.on []).2.lasts.length = D.lasts.length := by simp [DiskS.on, h]
theorem alive_on_dead {D : DiskS} (h : D.dead = true) : (D.on []).2.dead = false := by simp [DiskS.on, h]
/-- A pending number is a sector's. -/
theorem pending_at {D : DiskS} (ok : D.Ok) {j : Nat} {x : Int} (h : D.pending[j]? = some x) : ∃ k : Nat, x = k ∧ k < D.lasts.length := by
  have hm := (pending_mem D ok x).1 (List.mem_of_getElem? h)
  obtain ⟨s, hs⟩ := Option.isSome_iff_exists.1 hm
  have := ok.sup x s hs
  exact ⟨x.toNat, by omega, by omega⟩

set_option maxRecDepth 20000 in
set_option maxHeartbeats 4000000 in
theorem diskChoice_in (w : World) (n : Nat) (hn1 : 1 ≤ n) (hn2 : n ≤ 1000) (a : Option Addr) (cap : Nat) (os : List OpV) (ho : OpsAt w a os)
    (ka : Option Addr) (kcap : Nat) (keep : List Int) (hk : IntsAt w ka keep) (hlen : keep.length ≤ 9223372036854775807) :
    Calls Try.prog 6 #[.int .i64 n, .slice a os.length cap, .slice ka keep.length kcap] w fun e w' => e = .returned (.bool true) ∧ Tch [] w w' := by
  have HO := Lib.hid ho
  have HK := Lib.hid hk
  have HLEN := Lib.hid hlen
  clear ho hk
  go_enter Try.func6, Try.ntmps6
  go_wp2_with fail
  refine (new_any w n (by omega) (by omega)).mono ?_
  rintro e w1 ⟨d, L, M, rfl, h1, t1, n1, n2, n3⟩
  have hsolo : Solo w w1 d L M (DiskS.made n) [] [] := by
    have l1 := lt_of_heap h1.hd
    have l2 := lt_of_heap h1.hL
    have l3 := h1.hM.lt
    refine ⟨h1, ⟨t1, ?_, by simp⟩, by simp⟩
    intro k hk
    simp at hk
    omega
  have HS := Lib.hid hsolo
  clear h1 t1 n1 n2 n3 hsolo
  go_upto_block 0 with fail
  generalize hm : os.length = m at *
  have HN := Lib.hid hm
  clear hm
  go_cut [9] from 37 to 52 (fun _ wx => ∃ D, Solo w wx d L M D [] [] ∧ D.lasts.length = n)
  case first =>
    go_wp2_with fail
    go_loopg [9] 300 (fun q i wr => ∃ j, OnAt 300 i q j ∧ ∃ D, Solo w wr d L M D [] [] ∧ D.lasts.length = n)
    case atStart => exact ⟨0, ⟨Nat.zero_le _, rfl, rfl⟩, _, HS.out, by simp [DiskS.made]⟩
    case round =>
      obtain ⟨j, ⟨hj, rfl, rfl⟩, D, hP, hDn⟩ := hrel
      clear HS
      have HS := Lib.hid hP
      have HDN := Lib.hid hDn
      clear hP hDn
      by_cases hj1 : j < m
      · by_cases hj2 : j < 300
        · have hlen' : os.length = m := HN.out
          have hx : os[j]? = some (os[j]'(by omega)) := List.getElem?_eq_getElem _
          obtain ⟨kb, ko, rfl, hop⟩ := HO.out j _ hx
          generalize os[j]'(by omega) = o at *
          have hop' := hop.later HS.out.bx.tch
          have c0 := hop'.c0
          have c1 := hop'.c1
          have c2 := hop'.c2
          have c3 := hop'.c3
          have HOP := Lib.hid hop.ok
          clear hop hop' hx hlen'
          go_wp2_with (go_at_call 22; refine (acts_any HS.out.dk o (HOP.out.later HS.out.bx.tch) (HS.out.off HOP.out)).mono ?_; rintro e w5 ⟨rfl, hq1, hq2⟩; have HQ := Lib.hid (HS.out.stepD hq1 hq2); clear hq1 hq2)
          go_roundg (300 - (j + 1))
          case measure => omega
          case rel => exact ⟨j + 1, ⟨by omega, by go_num, rfl⟩, _, HQ.out, by rw [act_len]; exact HDN.out⟩
        · go_wp2_with fail
          go_meet
          exact ⟨_, HS.out, HDN.out⟩
      · go_wp2_with fail
        go_meet
        exact ⟨_, HS.out, HDN.out⟩
  case rest =>
  obtain ⟨D, hP, hDn⟩ := hcut
  clear HS
  have HS := Lib.hid hP
  have HDN := Lib.hid hDn
  clear hP hDn
  go_upto_region 10 with fail
  go_cut [59] from 53 to 59 (fun s59 wx => s59 = .bool false ∧ ∃ D, Solo w wx d L M D [] [] ∧ D.lasts.length = n ∧ D.dead = false)
  case first =>
    cases hd : D.dead with
    | true =>
      have e0 := on_dead hd []
      have K1 := Lib.hid ((alive_on_len hd).trans HDN.out)
      have K2 := Lib.hid (alive_on_dead hd)
      have HD := Lib.hid hd
      have E0 := Lib.hid e0
      clear e0 hd
      go_wp2_with (first | (go_at_call 15; refine (dead_any HS.out.dk).mono ?_; rintro e w' ⟨rfl, rfl⟩; rw [HD.out]) | (go_at_call 18; refine (on_any HS.out.dk none 0 [] (by intro j x h; simp at h) (by decide) (by simp)).mono ?_; rintro e w' ⟨rfl, hq1, hq2⟩; rw [E0.out]; have HS2 := Lib.hid (HS.out.stepD hq1 hq2); clear hq1 hq2))
      go_meet
      exact ⟨rfl, _, HS2.out, K1.out, K2.out⟩
    | false =>
      have HD := Lib.hid hd
      clear hd
      go_wp2_with (go_at_call 15; refine (dead_any HS.out.dk).mono ?_; rintro e w' ⟨rfl, rfl⟩; rw [HD.out])
      go_meet
      exact ⟨rfl, _, HS.out, HDN.out, HD.out⟩
  case rest =>
  obtain ⟨rfl, D3, hP, hDn, hW⟩ := hcut
  clear HS HDN D
  have HS := Lib.hid hP
  have HDN := Lib.hid hDn
  have HDD := Lib.hid hW
  clear hP hDn hW
  go_wp2_with fail
  refine (sectors_any HS.out.dk).mono ?_
  rintro e w2 ⟨ht, kb, cap', rfl, hk, hsk⟩
  rw [HDN.out]
  have hs2 : Solo w w2 d L M D3 [kb] [] := by
    have l1 := lt_of_heap HS.out.dk.hd
    have l2 := lt_of_heap HS.out.dk.hL
    have l3 := HS.out.dk.hM.lt
    have l4 := HS.out.bx.tch.size
    have l5 : kb < w2.heap.size := by obtain ⟨cur, e, g, _⟩ := hsk; exact lt_of_heap g
    exact (HS.out.same ht).own (by omega) l5 (by simp) (by omega)
  have HS2 := Lib.hid hs2
  have HSK := Lib.hid hsk
  clear HS ht hk hsk hs2
  go_wp2_with fail
  refine (pending_any HS2.out.dk).mono ?_
  rintro e w3 ⟨hq1, v, rfl, pa, pcap, rfl, hpi⟩
  have HS3 := Lib.hid (HS2.out.same hq1)
  have HSK3 := Lib.hid (HSK.out.touch hq1 (by simp))
  have HPI := Lib.hid hpi
  clear HS2 HSK hq1 hpi
  have hpl : D3.pending.length ≤ 9223372036854775807 := by
    have h1 := pending_len D3
    have h2 := HDN.out
    omega
  have HPL := Lib.hid hpl
  clear hpl
  go_upto_block 2 with (first | ((with_reducible apply wc_makeArrs secT uSecs (m := n)); omega; omega; exact rfl; exact rfl; go_frame) | ((with_reducible apply wc_makeBools uBools infoBool1 (m := n)); omega; exact rfl; exact rfl; go_frame; (try simp only [World.size_alloc])))
  have hcw : CW w ((w3.alloc (.cells (secsA (List.replicate n (Arr.zero : Sec))) 33)).alloc (.cells (boolsA (List.replicate n false)) 4)) d L M D3 kb pa D3.pending w3.heap.size (List.replicate n Arr.zero) (w3.heap.size + 1) (List.replicate n false) [] := by
    have l1 := lt_of_heap HS3.out.dk.hd
    have l2 := lt_of_heap HS3.out.dk.hL
    have l3 := HS3.out.dk.hM.lt
    have l4 := HS3.out.bx.tch.size
    have l5 := (HS3.out.bx.own kb (by simp)).2
    have t1 : Tch [] w3 (w3.alloc (.cells (secsA (List.replicate n (Arr.zero : Sec))) 33)) := (Tch.refl [] _).alloc _
    have t2 := t1.alloc (.cells (boolsA (List.replicate n false)) 4)
    have hs := ((HS3.out.same t2).own (k := w3.heap.size) l4 (by simp; omega) (by simp) (by omega)).own (k := w3.heap.size + 1) (by omega) (by simp) (by simp) (by omega)
    refine ⟨⟨hs.dk, ⟨hs.bx.tch, fun x hx => hs.bx.own x (by simp at hx ⊢; omega), by simp⟩, fun x hx => hs.ne x (by simp at hx ⊢; omega)⟩, HSK3.out.touch t2 (by simp), HPI.out.touch t2 (by simp), ?_, ?_, ⟨?_⟩, by omega, by omega, by omega⟩
    · intro x e1 e2
      have h1 := ints_old HPI.out (k := w3.heap.size) (Nat.le_refl _) x e1 e2
      have h2 := ints_old HPI.out (k := w3.heap.size + 1) (by omega) x e1 e2
      exact ⟨h1, h2⟩
    · rw [heap_alloc, if_neg (by simp), heap_alloc, if_pos rfl]
    · rw [heap_alloc, if_pos (by simp)]
  have HX := Lib.hid hcw
  clear hcw HS3 HSK3 HPI
  have hz : Hid ((List.replicate n (Arr.zero : Sec)).length = n) := Lib.hid List.length_replicate
  have hmk : Hid (List.replicate n false = marks n []) := (marks_nil n).symm
  generalize (w3.alloc (.cells (secsA (List.replicate n (Arr.zero : Sec))) 33)).alloc (.cells (boolsA (List.replicate n false)) 4) = w4 at *
  generalize w3.heap.size + 1 = mb at *
  generalize w3.heap.size = wb at *
  generalize (List.replicate n (Arr.zero : Sec)) = ws0 at *
  rw [hmk.out] at HX
  clear hmk w3 w2
  go_cut [14] from 72 to 83 (fun _ wx => CW w wx d L M D3 kb pa D3.pending wb D3.lasts mb (marks n []) [])
  case first =>
    go_wp2_with fail
    go_loopg [14] n (fun q i wr => ∃ j, OnAt n i q j ∧ ∃ ws, CW w wr d L M D3 kb pa D3.pending wb ws mb (marks n []) [] ∧ ws.length = n ∧ ws.take j = D3.lasts.take j)
    case atStart => exact ⟨0, ⟨Nat.zero_le _, rfl, rfl⟩, _, HX.out, hz.out, rfl⟩
    case round =>
      obtain ⟨j, ⟨hj, rfl, rfl⟩, ws, hP, hl, ht⟩ := hrel
      clear HX hz
      have HX := Lib.hid hP
      have HT := Lib.hid ht
      have HWL := Lib.hid hl
      clear hP ht hl
      by_cases hjn : j < n
      · have hjl : j < D3.lasts.length := by have := HDN.out; omega
        have hx : D3.lasts[j]? = some (D3.lasts[j]'hjl) := List.getElem?_eq_getElem _
        generalize D3.lasts[j]'hjl = s at *
        have HSX := Lib.hid hx
        have hjw : j < ws.length := by have := HWL.out; omega
        have HSK := Lib.hid HX.out.sk
        have HWT := Lib.hid HX.out.wt
        clear hx
        go_wp2_with (first | ((with_reducible apply wc_load_in secT HSK.out HSX.out); exact rfl; go_frame) | ((with_reducible apply wc_store_row secT HWT.out hjw); exact rfl; exact rfl; go_frame))
        go_roundg (n - (j + 1))
        case measure => omega
        case rel =>
          have e1 : ws.take j = D3.lasts.take j := HT.out
          have e2 : D3.lasts[j]? = some s := HSX.out
          refine ⟨j + 1, ⟨by omega, by go_num, rfl⟩, _, HX.out.want (ws.set j s), by simp [HWL.out], ?_⟩
          rw [List.take_add_one, List.take_add_one, e2, List.take_set_of_le (Nat.le_refl _), e1]
          simp [hjw]
      · go_wp2_with fail
        go_meet
        have e1 : ws.take j = D3.lasts.take j := HT.out
        have e2 : ws.length = n := HWL.out
        have e3 : D3.lasts.length = n := HDN.out
        rw [List.take_of_length_le (by omega), List.take_of_length_le (by omega)] at e1
        rw [← e1]
        exact HX.out
  case rest =>
  clear HX hz w4 ws0
  have HX := Lib.hid hcut
  clear hcut
  go_upto_block 4 with fail
  generalize hP : D3.pending = P at *
  have HPE := Lib.hid hP
  generalize hpn : P.length = pn at *
  have HPN := Lib.hid hpn
  clear hP hpn
  go_cut [15] from 84 to 124 (fun _ wx => CW w wx d L M D3 kb pa P wb D3.lasts mb (marks n P) [])
  case first =>
    go_wp2_with fail
    go_loopg [15] pn (fun q i wr => ∃ j, OnAt pn i q j ∧ CW w wr d L M D3 kb pa P wb D3.lasts mb (marks n (P.take j)) [])
    case atStart => exact ⟨0, ⟨Nat.zero_le _, rfl, rfl⟩, HX.out⟩
    case round =>
      obtain ⟨j, ⟨hj, rfl, rfl⟩, hP⟩ := hrel
      clear HX
      have HX := Lib.hid hP
      clear hP
      by_cases hjn : j < pn
      · have hpj : j < P.length := by have := HPN.out; omega
        have hx : P[j]? = some (P[j]'hpj) := List.getElem?_eq_getElem _
        generalize P[j]'hpj = x at *
        obtain ⟨k, rfl, hk⟩ := pending_at HX.out.so.dk.ok (by rw [HPE.out]; exact hx)
        have hkn : k < n := by have := HDN.out; omega
        obtain ⟨b, o, rfl, hcx⟩ := HX.out.pp j _ hx
        have hmk : (marks n (P.take j))[k]? = some (decide ((k : Int) ∈ P.take j)) := marks_get _ hkn
        have cb := HX.out.mt.cell hmk
        have fb := frozen_of_row wr mb k _ _ HX.out.mt.at_
        have HM : Hid (marks n (P.take (j + 1)) = (marks n (P.take j)).set k true) := by
          rw [List.take_add_one, hx]; exact marks_snoc _ _ _
        have hprev : ∀ i, j = i + 1 → ∃ k' : Nat, wr.cell? ⟨b, o + i, none⟩ = some (.int .i64 k') ∧ k' < k := by
          intro i hi
          subst hi
          have hpi : i < P.length := by omega
          have hy : P[i]? = some (P[i]'hpi) := List.getElem?_eq_getElem _
          obtain ⟨k', hk', hk2⟩ := pending_at HX.out.so.dk.ok (by rw [HPE.out]; exact hy)
          obtain ⟨b', o', e', hc'⟩ := HX.out.pp i _ hy
          cases e'
          rw [hk'] at hc' hy
          have hlt := pending_step D3 i _ _ (by rw [HPE.out]; exact hy) (by rw [HPE.out]; exact hx)
          exact ⟨k', hc', by omega⟩
        have g0 : decide ((k : Int) < 0) = false := by rw [decide_eq_false_iff_not]; omega
        have g1 : decide (n ≤ k) = false := by rw [decide_eq_false_iff_not]; omega
        clear hx hmk
        cases j with
        | zero =>
          clear hprev
          simp only [Nat.add_zero] at hcx
          go_wp2_with fail
          (refine wp_region_quiet_lit (by kernel_rfl) (by kernel_rfl) ?_; (repeat (first | fail | go_big_quiet_step (fail))); refine wpQuiet_nil ?_; intro _ hw'; obtain ⟨nq, hw''⟩ := hw'; subst hw'')
          go_wp2_with fail
          go_roundg (pn - (0 + 1))
          case measure => omega
          case rel => exact ⟨0 + 1, ⟨by omega, by go_num, rfl⟩, by rw [HM.out]; exact (HX.out.same (tch_drewN _ _)).mark k⟩
        | succ i =>
          obtain ⟨k', hc', hkk⟩ := hprev i rfl
          have hpl : pn ≤ 9223372036854775807 := HPL.out
          clear hprev
          have gw : wrap64 (i : Int) = i := by have := HPL.out; unfold wrap64; omega
          have g2 : decide (k ≤ k') = false := by rw [decide_eq_false_iff_not]; omega
          go_wp2_with fail
          (refine wp_region_quiet_lit (by kernel_rfl) (by kernel_rfl) ?_; (repeat (first | fail | go_big_quiet_step (fail))); refine wpQuiet_nil ?_; intro _ hw'; obtain ⟨nq, hw''⟩ := hw'; subst hw'')
          clear gw g0 g1 g2
          go_wp2_with fail
          go_roundg (pn - ((i + 1) + 1))
          case measure => omega
          case rel => exact ⟨(i + 1) + 1, ⟨by omega, by go_num, rfl⟩, by rw [HM.out]; exact (HX.out.same (tch_drewN _ _)).mark k⟩
      · go_wp2_with fail
        go_meet
        have e1 : P.length = pn := HPN.out
        have hx := HX.out
        rw [List.take_of_length_le (by omega)] at hx
        exact hx
  case rest =>
  clear HX
  have HX := Lib.hid hcut
  clear hcut
  go_upto_block 6 with fail
  generalize hkl : keep.length = kl at *
  have HKL := Lib.hid hkl
  clear hkl
  have hw0 := want_nil D3
  have HW0 := Lib.hid hw0
  clear hw0
  go_cut [16, 17, 18] from 125 to 170 (fun _ _ _ wx => CW w wx d L M D3 kb pa P wb (wantOf D3 keep) mb (marks n P) [])
  case first =>
    go_wp2_with fail
    go_loopg [16, 17, 18] kl (fun q i _ _ wr => ∃ j, OnAt kl i q j ∧ CW w wr d L M D3 kb pa P wb (wantOf D3 (keep.take j)) mb (marks n P) [])
    case atStart => exact ⟨0, ⟨Nat.zero_le _, rfl, rfl⟩, by rw [List.take_zero, HW0.out]; exact HX.out⟩
    case round =>
      obtain ⟨j, ⟨hj, rfl, rfl⟩, hP⟩ := hrel
      clear HX
      have HX := Lib.hid hP
      clear hP
      by_cases hjn : j < kl
      · have hkj : j < keep.length := by have := HKL.out; omega
        have hx : keep[j]? = some (keep[j]'hkj) := List.getElem?_eq_getElem _
        generalize keep[j]'hkj = x at *
        obtain ⟨b, o, rfl, hcx⟩ := (HK.out.touch HX.out.so.bx.tch (by simp)) j _ hx
        have hsn : Hid (keep.take (j + 1) = keep.take j ++ [x]) := by rw [List.take_add_one, hx]; exact (rfl : keep.take j ++ [x] = keep.take j ++ [x])
        clear hx
        by_cases hin : 0 ≤ x ∧ x < (n : Int)
        · obtain ⟨k, rfl⟩ := Int.eq_ofNat_of_zero_le hin.1
          have hkn : k < n := by have := hin.2; omega
          have hmk : (marks n P)[k]? = some (decide ((k : Int) ∈ P)) := marks_get _ hkn
          have cb := HX.out.mt.cell hmk
          have hiff : (k : Int) ∈ P ↔ (D3.waits k).isSome = true := by rw [← HPE.out]; exact pending_mem D3 HX.out.so.dk.ok k
          clear hmk hin
          by_cases hm : (k : Int) ∈ P
          · have e1 : decide ((k : Int) ∈ P) = true := by simpa using hm
            rw [e1] at cb
            obtain ⟨r1, r2⟩ := want_yes HDD.out (keep.take j) k (by have := HDN.out; omega) (hiff.1 hm)
            have R1 := Lib.hid r1
            have R2 := Lib.hid (hsn.out ▸ r2)
            generalize D3.at_ k = s at *
            have hlw : k < (wantOf D3 (keep.take j)).length := by rw [want_len]; have := HDN.out; omega
            clear e1 r1 r2 hiff hm
            go_wp2_with (first | (go_at_call 17; refine (read_any HX.out.so.dk k).mono ?_; rintro e w5 ⟨rfl, hq1⟩; rw [R1.out]; have HY := Lib.hid ((HX.out.same hq1).put (.cells (secA s) 33)); have hcx5 := cell_old hq1 hcx; clear hq1) | ((with_reducible refine wc_alloc_arr secT ?_); go_frame; (try simp only [World.size_alloc])) | ((with_reducible apply wc_store_new secT); exact rfl; exact rfl; go_frame))
            have hcx6 := cell_old ((Tch.refl [] w5).alloc (.cells (secA s) 33)) hcx5
            generalize w5.alloc (.cells (secA s) 33) = w6 at *
            generalize w5.heap.size = b5 at *
            have HB5 : Hid (w6.heap[b5]? = some (.cells (secA s) 33)) := HY.out.so.bx.got (by simp)
            have HWT := Lib.hid HY.out.wt
            clear hcx hcx5 cb
            (refine wp_region_walk (C := fun w' => ∃ n, w' = World.drewN w6 n) 7 (by kernel_rfl) (by kernel_rfl) ⟨1, rfl⟩ ?_; simp only [List.take_succ_cons, List.take_zero, List.drop_succ_cons, List.drop_zero]; (repeat (first | ((with_reducible apply wq_load_var secT (drewN_heap HB5.out)); exact rfl; exact rfl; go_frame) | go_big_quiet_step (fail))); refine wpQuiet_nil ?_; intro _ hw'; obtain ⟨nq, hw''⟩ := hw'; subst hw'')
            apply wc_store_row secT (drewN_heap HWT.out _ ⟨nq, rfl⟩) hlw
            · exact rfl
            · exact rfl
            go_frame
            go_wp2_with fail
            go_roundg (kl - (j + 1))
            case measure => omega
            case rel => exact ⟨j + 1, ⟨by omega, by go_num, rfl⟩, by rw [R2.out]; exact ((HY.out.same (tch_drewN _ _)).want _).drop (by simp)⟩
          · have e1 : decide ((k : Int) ∈ P) = false := by simpa using hm
            rw [e1] at cb
            have hw : D3.waits k = none := by
              cases hh : D3.waits k with
              | none => rfl
              | some s => exact absurd (hiff.2 (by rw [hh]; rfl)) hm
            have R2 := Lib.hid (hsn.out ▸ want_no (keep.take j) (k : Int) hw)
            clear e1 hiff hm hw
            go_wp2_with fail
            go_roundg (kl - (j + 1))
            case measure => omega
            case rel => exact ⟨j + 1, ⟨by omega, by go_num, rfl⟩, by rw [R2.out]; exact HX.out⟩
        · have hw : D3.waits x = none := by
            cases hh : D3.waits x with
            | none => rfl
            | some s =>
              have h1 := HX.out.so.dk.ok.sup x s hh
              have h2 := HDN.out
              exact absurd ⟨h1.1, by omega⟩ hin
          have R2 := Lib.hid (hsn.out ▸ want_no (keep.take j) x hw)
          clear hw
          by_cases h0 : 0 ≤ x
          · have h1 : ¬ x < (n : Int) := fun h => hin ⟨h0, h⟩
            clear hin
            go_wp2_with fail
            go_roundg (kl - (j + 1))
            case measure => omega
            case rel => exact ⟨j + 1, ⟨by omega, by go_num, rfl⟩, by rw [R2.out]; exact HX.out⟩
          · clear hin
            go_wp2_with fail
            go_roundg (kl - (j + 1))
            case measure => omega
            case rel => exact ⟨j + 1, ⟨by omega, by go_num, rfl⟩, by rw [R2.out]; exact HX.out⟩
      · go_wp2_with fail
        go_meet
        have e1 : keep.length = kl := HKL.out
        have hx := HX.out
        rw [List.take_of_length_le (by omega)] at hx
        exact hx
  case rest =>
  clear HX
  have HX := Lib.hid hcut
  clear hcut HW0
  have hb4 : ∀ i : Nat, i < n → ∃ s, (wantOf D3 keep)[i]? = some s ∧ (D3.off.on keep).2.read i = (s, 0) := by
    intro i hi
    have hl : i < D3.lasts.length := by have := HDN.out; omega
    exact ⟨_, List.getElem?_eq_getElem (by rw [want_len]; exact hl), want_behind D3 keep i hl⟩
  have HB4 := Lib.hid hb4
  have e0 : (D3.off.on keep).1 = 0 := by rw [on_off]
  have E0 := Lib.hid e0
  have E1 := Lib.hid (on_pending D3 keep)
  have e2 : (D3.off.on keep).2.dead = false := by rw [on_off]
  have E2 := Lib.hid e2
  have e3 : (D3.off.on keep).2.lasts = wantOf D3 keep := by rw [on_off]; rfl
  have E3 := Lib.hid e3
  have e4 : D3.off.dead = true := rfl
  have E4 := Lib.hid e4
  have hap : ∀ x, keep ≠ [] → ka = some x → x.block ≠ d ∧ x.block ≠ L ∧ x.block ≠ M := fun x e1 e2 =>
    ⟨ints_old HK.out (HX.out.so.bx.own d (by simp)).1 x e1 e2, ints_old HK.out (HX.out.so.bx.own L (by simp)).1 x e1 e2, ints_old HK.out (HX.out.so.bx.own M (by simp)).1 x e1 e2⟩
  have HAP := Lib.hid hap
  have hwb : ∀ x ∈ [d, L, M], wb ≠ x := by
    have := HX.out.so.ne wb (by simp)
    simp; omega
  have HSO := Lib.hid HX.out.so
  have HWT := Lib.hid HX.out.wt
  have CON : Hid (∀ W, Solo w W d L M D3.off [kb, wb, mb] [] → Calls Try.prog 18 #[.pointer (some ⟨d, 0, none⟩), .slice ka kl kcap] W fun e w' => e = .returned (.int .i64 (D3.off.on keep).1) ∧ DiskAt w' d L M (D3.off.on keep).2 ∧ Tch [d, L, M] W w') := fun W h => by
    rw [← HKL.out]
    exact on_any h.dk ka kcap keep (HK.out.touch h.bx.tch (by simp)) (by rw [HKL.out]; exact HLEN.out) HAP.out
  clear hb4 e0 e2 e3 e4 hap HX
  go_upto_block 8 with (first | (go_at_call 24; refine (off_any HSO.out.dk).mono ?_; rintro e w' ⟨rfl, hq1, hq2⟩; have HX2 := Lib.hid (HSO.out.stepD hq1 (hq2.mono (by simp))); have HW2 := Lib.hid (hq2.heap HWT.out (by simpa using hwb d (by simp))); clear hq1 hq2 HSO HWT) | (go_at_call 15; refine (dead_any HX2.out.dk).mono ?_; rintro e w' ⟨rfl, rfl⟩; rw [E4.out]) | (go_at_call 18; refine (CON.out _ HX2.out).mono ?_; rintro e w' ⟨rfl, hq1, hq2⟩; rw [E0.out]; have HX3 := Lib.hid (HX2.out.stepD hq1 hq2); have HW3 := Lib.hid (hq2.heap HW2.out (fun hm => hwb _ hm rfl)); clear hq1 hq2 HX2 HW2) | (go_at_call 15; refine (dead_any HX3.out.dk).mono ?_; rintro e w' ⟨rfl, rfl⟩; rw [E2.out]) | (go_at_call 25; refine (pending_any HX3.out.dk).mono ?_; rintro e w' ⟨hq1, v, rfl, a9, ca9, rfl, hi9⟩; rw [E1.out]; have HX4 := Lib.hid (HX3.out.same hq1); have HW4 := Lib.hid (hq1.heap HW3.out (by simp)); clear hq1 hi9 HX3 HW3))
  have HWS : Hid ((wantOf D3 keep).length = n) := (want_len D3 keep).trans HDN.out
  generalize (D3.off.on keep).2 = D4 at *
  generalize wantOf D3 keep = ws at *
  clear E0 E1 E2 E4
  go_wp2_with fail
  go_loopg [19, 20, 21] n (fun q i _ _ wr => ∃ j, OnAt n i q j ∧ Solo w wr d L M D4 [kb, wb, mb] [] ∧ wr.heap[wb]? = some (.cells (secsA ws) 33))
  case atStart => exact ⟨0, ⟨Nat.zero_le _, rfl, rfl⟩, HX4.out, HW4.out⟩
  case round =>
    obtain ⟨j, ⟨hj, rfl, rfl⟩, hP, hQ⟩ := hrel
    clear HX4 HW4
    have HX := Lib.hid hP
    have HW := Lib.hid hQ
    clear hP hQ
    by_cases hjn : j < n
    · obtain ⟨s, hl, hr⟩ := HB4.out j hjn
      have HR := Lib.hid hr
      have HL := Lib.hid hl
      clear hr hl
      go_wp2_with (first | (go_at_call 17; refine (read_any HX.out.dk j).mono ?_; rintro e w5 ⟨rfl, hq1⟩; rw [HR.out]; have HY := Lib.hid ((HX.out.same hq1).put (.cells (secA s) 33)); have HW5 := Lib.hid ((hq1.alloc (.cells (secA s) 33)).heap HW.out (by simp)); clear hq1) | ((with_reducible refine wc_alloc_arr secT ?_); go_frame; (try simp only [World.size_alloc])) | ((with_reducible apply wc_store_new secT); exact rfl; exact rfl; go_frame))
      generalize w5.alloc (.cells (secA s) 33) = w6 at *
      generalize w5.heap.size = b5 at *
      have HB5 : Hid (w6.heap[b5]? = some (.cells (secA s) 33)) := HY.out.bx.got (by simp)
      have HSW := Lib.hid (secsIn_whole HW5.out)
      (refine wp_region_quiet_lit (by kernel_rfl) (by kernel_rfl) ?_; (repeat (first | ((with_reducible apply wq_load_var secT (drewN_heap HB5.out)); exact rfl; exact rfl; go_frame) | ((with_reducible apply wq_load_in secT (drewN_secs HSW.out) HL.out); exact rfl; exact rfl; go_frame) | ((with_reducible apply wq_neq_arr secT); exact rfl; exact rfl; exact rfl; rw [decide_eq_true rfl]; go_frame) | go_big_quiet_step (fail))); refine wpQuiet_nil ?_; intro _ hw'; obtain ⟨nq, hw''⟩ := hw'; subst hw'')
      go_wp2_with fail
      go_roundg (n - (j + 1))
      case measure => omega
      case rel => exact ⟨j + 1, ⟨by omega, by go_num, rfl⟩, (HY.out.same (tch_drewN _ _)).drop (by simp), (tch_drewN _ nq).heap HW5.out (by simp)⟩
    · have CEQ : Hid (∀ W k1 ca1, SecsIn W k1 D4.lasts → SecsIn W wb ws → Calls Try.prog 26 #[.slice (some ⟨k1, 0, none⟩) D4.lasts.length ca1, .slice (some ⟨wb, 0, none⟩) n n] W fun e w' => e = .returned (.bool true) ∧ Tch [] W w') := fun W k1 ca1 h1 h2 => by
        have h := eqSecs_any (ca := ca1) (cb := n) h1 h2 (by rw [E3.out, HWS.out]; omega) (by rw [HWS.out]; omega)
        rw [HWS.out, E3.out, decide_eq_true rfl] at h
        rw [E3.out]
        exact h
      have HSW := Lib.hid (secsIn_whole HW.out)
      go_wp2_with (first | (go_at_call 23; refine (sectors_any HX.out.dk).mono ?_; rintro e w4 ⟨hq1, k1, ca1, rfl, hq2, hq3⟩; have HQ := Lib.hid (HX.out.same hq1); have HI1 := Lib.hid hq3; have HI2 := Lib.hid (HSW.out.touch hq1 (by simp)); clear hq1 hq2 hq3 HX) | (go_at_call 26; refine (CEQ.out _ _ _ HI1.out HI2.out).mono ?_; rintro e w6 ⟨rfl, hq1⟩; have HT := Lib.hid (HQ.out.same hq1); clear hq1) | (go_at_call 19; refine (works_any _).mono ?_; rintro e w7 ⟨rfl, hq1⟩; have HWK := Lib.hid (HT.out.same hq1); clear hq1))
      go_ret
      exact ⟨rfl, HWK.out.bx.tch⟩

theorem diskChoice_any (w : World) (n : Int) (_lo : -9223372036854775808 ≤ n) (_hi : n ≤ 9223372036854775807) (a : Option Addr) (cap : Nat) (os : List OpV) (ho : OpsAt w a os) (_h1 : os.length ≤ 9223372036854775807)
    (ka : Option Addr) (kcap : Nat) (keep : List Int) (hk : IntsAt w ka keep) (hlen : keep.length ≤ 9223372036854775807) :
    Calls Try.prog 6 #[.int .i64 n, .slice a os.length cap, .slice ka keep.length kcap] w fun e w' => e = .returned (.bool true) ∧ Tch [] w w' := by
  by_cases h1 : 1000 < n
  · exact diskChoice_big w n _ _ h1
  · by_cases h2 : n < 1
    · exact diskChoice_no w n _ _ h2
    · obtain ⟨k, rfl⟩ := Int.eq_ofNat_of_zero_le (show 0 ≤ n by omega)
      exact diskChoice_in w k (by omega) (by omega) a cap os ho ka kcap keep hk hlen
end Go.Proofs.Ytpfgjopiddopbaa
