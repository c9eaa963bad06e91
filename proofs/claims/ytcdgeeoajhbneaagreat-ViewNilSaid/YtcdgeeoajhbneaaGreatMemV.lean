/-
  A space in memory: package view's memory: Get, Put, Delete, List.
-/
import Derived.Test.YtcdgeeoajhbneaaGreatBookB
import Derived.Test.YtcdgeeoajhbneaaGreatMap2
import Derived.Test.YtcdgeeoajhbneaaGreatShelf
import Derived.Test.YtcdgeeoajhbneaaGreatShelfK
import Derived.Shelf.SlIter.Nil
import Derived.Shelf.SortM.Plain
import Derived.Shelf.SortM.SortNone
namespace Go.Proofs.YtcdgeeoajhbneaaGreat
open Go.RowKit Go.Cib Go.Maps Go.Sort Go.Shelf
theorem sorts_in (m : Nat) : AnyZ.SortsIn Tryz.prog Tryz.sorted177_ren Fence.wide m :=
  ⟨fun blk off cap ss W hH hblk hsz => callsIn_wide.2 (AnyM.slices_Sort_string Tryz.sort180 blk off cap ss W hH hblk hsz),
   fun p cap W => callsIn_wide.2 (AnyM.slices_Sort_string_none Tryz.sort180 p cap W)⟩
theorem keys_any (mb : Option Nat) (W : World) : Calls Tryz.prog 178 #[.map mb] W fun e w' => e = .returned (.func (.func 181) #[] #[.pointer (some ⟨W.heap.size, 0, none⟩)]) ∧ w' = W.alloc (.cells #[.map mb] 52) :=
  (callsIn_wide (n := 5)).1 (AnyZ.keys_in Tryz.keys178 Fence.wide 5 trivial rfl mb W)
set_option maxHeartbeats 1000000 in
theorem sortedK_any {H : Type} (b nn : Nat) (D0 : DataW H) (R : Value → Option (DataW H × List MemPlace)) (w : World) (hown : w.ownsMap Tryz.prog 9 R b nn D0) (hmax : Maps.size D0 ≤ maxLen) (hbytes : Maps.size D0 * 16 ≤ 140737488355328) :
    Calls Tryz.prog 177 #[.func (.func 181) #[] #[.pointer (some ⟨w.heap.size, 0, none⟩)]] (w.alloc (.cells #[.map (some b)] 52)) fun e w' => ∃ (v : Value) (ss : List (List UInt8)), e = .returned v ∧ ss.Perm (strKeys D0) ∧
      w'.ownsRow (w.alloc (.cells #[.map (some b)] 52)).heap.size 9 1 v ss.length ((ss.mergeSort (fun x y => decide (x ≤ y))).map encStr) ∧ (v = .slice none 0 0 ↔ ss = []) ∧ Below (w.alloc (.cells #[.map (some b)] 52)).heap.size (w.alloc (.cells #[.map (some b)] 52)) w' := by
  have hbl := hown.lt
  have hseq : SeqGives Fence.wide 2 Tryz.prog 181 #[.pointer (some ⟨w.heap.size, 0, none⟩)] encStr (fun ss => ss.Perm (strKeys D0)) (Maps.size D0) (w.alloc (.cells #[.map (some b)] 52)) :=
    AnyZ.keys_gives (ρ := Tryz.keys178_ren) { Tryz.keys178 with } Fence.wide _ trivial rfl (by omega) w.heap.size b nn D0 _ (by simp) (by simp) (by
      obtain ⟨es, clock, hb, Ft, hs, hD⟩ := hown
      exact ⟨es, clock, (Below.heap_alloc _ _ b hbl).trans hb, Ft, hs, hD⟩)
  refine (callsIn_wide (n := 5)).1 ?_
  exact AnyZ.sorted_in Tryz.sorted177 Fence.wide 5 trivial trivial trivial trivial rfl (by omega) (sorts_in _) (enters_of Tryz.func180 (by kernel_rfl) rfl) 181 #[.pointer (some ⟨w.heap.size, 0, none⟩)] trivial (enters_of Tryz.func181 (by kernel_rfl) rfl) _ _ hmax hbytes _ hseq

theorem keyS : KeyT Tryz.prog 9 kStr := keyT_str (by kernel_rfl)
theorem uMapVal : Tryz.prog.underlying 52 = some (.map 9 267) := by kernel_rfl
theorem valZero (w : World) : (zeroValue 267).run Tryz.prog w = .ok (.agg #[.string ByteArray.empty]) w := by kernel_rfl
/-- Block X is a space in memory; its map is block M. -/
structure MemAt (w : World) (X M : Nat) (B : List Kv) : Prop where
  hX : w.heap[X]? = some (.cells #[.map (some M)] 54)
  hM : MapAt kStr w M (fun k => (get B k).map fun v => .agg #[.string v])
  up : Rising B
  len : B.length ≤ 100000
  sz : ∀ e ∈ B, e.1.size ≤ 198
theorem MemAt.touch {w w' : World} {X M : Nat} {B : List Kv} {S : List Nat} (h : MemAt w X M B) (ht : Tch S w w') (h1 : X ∉ S) (h2 : M ∉ S) : MemAt w' X M B := ⟨ht.heap h.hX h1, h.hM.touch ht h2, h.up, h.len, h.sz⟩
theorem MemAt.old {w w' : World} {X M : Nat} {B : List Kv} (h : MemAt w X M B) (ht : Tch [] w w') : MemAt w' X M B := h.touch ht (by simp) (by simp)
theorem MemAt.ne {w : World} {X M : Nat} {B : List Kv} (h : MemAt w X M B) : X ≠ M := by
  obtain ⟨es, clk, h1, _⟩ := h.hM
  rintro rfl
  rw [h.hX] at h1; cases h1
theorem getD_val (o : Option ByteArray) : ((o.map fun v => Value.agg #[.string v]).getD (.agg #[.string ByteArray.empty])) = .agg #[.string (o.getD ByteArray.empty)] := by cases o <;> rfl
section
variable {P : Program} {ops : Array Oper} {rest : List Oper} {a : Act} {w : World} {Q : Exit → Act → World → Prop} {dst : Option Tmp} {ty : TypeId} {pos : String} {af : Array Edge} {κ : Type} [DecidableEq κ] {T K E : TypeId} {key : κ → Value} {M : Nat} {f : κ → Option Value} {m k : Operand}
theorem wc_lookup2 (hK : KeyT P K key) (hT : P.underlying T = some (.map K E)) {z : Value} (hz : (zeroValue E).run P w = .ok z w) (hC : MapAt key w M f)
    {kk : κ} (hm : a.eval m = .map (some M)) (hk : a.eval k = key kk) {v : Value} {b : Bool} (hv : (f kk).getD z = v) (hb : (f kk).isSome = b) (h : wpList P ops Q rest (a.put dst (.tuple #[v, .bool b])) w) : wpList P ops Q (⟨dst, .lookup T m k true, ty, pos, af, none⟩ :: rest) a w := by
  subst hv hb
  exact wc_value rfl (exec_lookup rfl hK hT hz hm hk hC) h
end

set_option maxRecDepth 20000 in
set_option maxHeartbeats 1000000 in
theorem mget_any {w : World} {X M : Nat} {B : List Kv} (h : MemAt w X M B) (key : ByteArray) :
    Calls Tryz.prog 174 #[.pointer (some ⟨X, 0, none⟩), .string key] w fun e w' => e = .returned (.tuple #[.string ((get B key).getD ByteArray.empty), .bool (get B key).isSome, .int .i64 0]) ∧ Tch [] w w' := by
  have c0 : w.cell? ⟨X, 0, none⟩ = some (.map (some M)) := (cell_of_row w X 0 _ _ _ h.hX).trans (by simp)
  have H := Lib.hid h
  have e1 : Hid ((((get B key).map fun v => Value.agg #[.string v]).getD (.agg #[.string ByteArray.empty])) = .agg #[.string ((get B key).getD ByteArray.empty)]) := getD_val _
  have e2 : Hid (((get B key).map fun v => Value.agg #[.string v]).isSome = (get B key).isSome) := by show _ = _; simp
  clear h
  generalize (get B key).getD ByteArray.empty = s at *
  generalize (get B key).isSome = b at *
  go_enter Tryz.func174, Tryz.ntmps174
  go_wp2_with ((with_reducible refine wc_lookup2 (m := .tmp 13) (k := .tmp 14) (kk := key) keyS uMapVal (valZero _) H.out.hM ?_ ?_ e1.out e2.out ?_); exact rfl; exact rfl; go_frame)
  go_ret3
  exact ⟨rfl, (Tch.refl _ _).alloc _⟩

theorem get_put_fun {B : List Kv} (hB : Rising B) (k v : ByteArray) : upd (fun j => (get B j).map fun v => Value.agg #[.string v]) k (.agg #[.string v]) = fun j => (get (put B k v) j).map fun v => Value.agg #[.string v] := by
  funext j
  unfold upd
  rw [get_put hB]
  by_cases e : j = k
  · rw [if_pos e, if_pos e]; rfl
  · rw [if_neg e, if_neg e]
theorem get_del_fun {B : List Kv} (hB : Rising B) (k : ByteArray) : rem (fun j => (get B j).map fun v => Value.agg #[.string v]) k = fun j => (get (del B k) j).map fun v => Value.agg #[.string v] := by
  funext j
  unfold rem
  rw [get_del hB]
  by_cases e : j = k
  · rw [if_pos e, if_pos e]; rfl
  · rw [if_neg e, if_neg e]
set_option maxRecDepth 20000 in
set_option maxHeartbeats 1000000 in
theorem mput_any {w : World} {X M : Nat} {B : List Kv} (h : MemAt w X M B) (hl : B.length < 100000) (key v : ByteArray) (hk : key.size ≤ 198) :
    Calls Tryz.prog 176 #[.pointer (some ⟨X, 0, none⟩), .string key, .string v] w fun e w' => e = .returned (.int .i64 0) ∧ MemAt w' X M (put B key v) ∧ Tch [M] w w' := by
  have c0 : w.cell? ⟨X, 0, none⟩ = some (.map (some M)) := (cell_of_row w X 0 _ _ _ h.hX).trans (by simp)
  have H := Lib.hid h
  have HL := Lib.hid hl
  have HK := Lib.hid hk
  clear h hl hk
  go_enter Tryz.func176, Tryz.ntmps176
  go_wp2_with ((with_reducible refine wc_mapUpdate (m := .tmp 10) (k := .tmp 11) (x := .tmp 13) (kk := key) (v := .agg #[.string v]) keyS uMapVal H.out.hM ?_ ?_ ?_ ?_); exact rfl; exact rfl; exact rfl; intro w2 t2 h2; go_frame; have T2 := Lib.hid t2; have H2 := Lib.hid h2; clear t2 h2)
  go_ret
  refine ⟨rfl, ⟨T2.out.heap H.out.hX (by simpa using H.out.ne), ?_, H.out.up.put _ _, ?_, ?_⟩, T2.out⟩
  · rw [← get_put_fun H.out.up]; exact H2.out
  · have := length_put B key v
    have := HL.out
    omega
  · intro e he
    rcases (mem_put H.out.up).1 he with rfl | ⟨he, _⟩
    · exact HK.out
    · exact H.out.sz e he
set_option maxRecDepth 20000 in
set_option maxHeartbeats 1000000 in
theorem mdel_any {w : World} {X M : Nat} {B : List Kv} (h : MemAt w X M B) (key : ByteArray) :
    Calls Tryz.prog 173 #[.pointer (some ⟨X, 0, none⟩), .string key] w fun e w' => e = .returned (.tuple #[.bool (is B key), .int .i64 0]) ∧ MemAt w' X M (del B key) ∧ Tch [M] w w' := by
  have c0 : w.cell? ⟨X, 0, none⟩ = some (.map (some M)) := (cell_of_row w X 0 _ _ _ h.hX).trans (by simp)
  have H := Lib.hid h
  have hXl := lt_of_heap h.hX
  have e1 : Hid ((((get B key).map fun v => Value.agg #[.string v]).getD (.agg #[.string ByteArray.empty])) = .agg #[.string ((get B key).getD ByteArray.empty)]) := getD_val _
  have e2 : Hid (((get B key).map fun v => Value.agg #[.string v]).isSome = is B key) := by show _ = _; rw [is_get]; simp
  clear h
  generalize (get B key).getD ByteArray.empty = s at *
  generalize hb : is B key = b at *
  have HB := Lib.hid hb
  clear hb
  go_enter Tryz.func173, Tryz.ntmps173
  go_wp2_with (first
    | ((with_reducible refine wc_lookup2 (m := .tmp 12) (k := .tmp 13) (kk := key) keyS uMapVal (valZero _) H.out.hM ?_ ?_ e1.out e2.out ?_); exact rfl; exact rfl; go_frame)
    | ((with_reducible refine wc_delete (m := .tmp 20) (k := .tmp 21) (kk := key) keyS uMapVal (H.out.hM.touch ((Tch.refl [] _).alloc _) (by simp)) rfl ?_ ?_ ?_ ?_); exact rfl; exact rfl; exact rfl; intro w2 t2 h2; go_frame; have T2 := Lib.hid t2; have H2 := Lib.hid h2; clear t2 h2))
  go_ret2
  have tt := ((Tch.refl [M] w).alloc _).trans T2.out
  refine ⟨rfl, ⟨tt.heap H.out.hX (by simpa using H.out.ne), ?_, H.out.up.del _, ?_, ?_⟩, tt⟩
  · rw [← get_del_fun H.out.up]; exact H2.out
  · have := length_del B key
    have := H.out.len
    omega
  · intro e he
    exact H.out.sz e ((mem_del H.out.up).1 he).1

theorem hasPrefix_begins (s p : ByteArray) : Lib.hasPrefix s.data.toList p.data.toList = begins s p := rfl
theorem keys_nodup {B : List Kv} (h : Rising B) : (B.map (·.1)).Nodup := by
  have : (B.map (·.1)).Pairwise fun a b => blt a b = true := List.pairwise_map.2 h
  exact this.imp fun h => blt_ne h
theorem keys_rising {B : List Kv} (h : Rising B) : (B.map (·.1)).Pairwise fun a b => blt a b = true := List.pairwise_map.2 h
theorem mem_keys {B : List Kv} (h : Rising B) (k : ByteArray) : k ∈ B.map (·.1) ↔ (get B k).isSome = true := by
  rw [← is_get, is_mem h, List.mem_map]
  constructor
  · rintro ⟨e, he, rfl⟩; exact ⟨e.2, he⟩
  · rintro ⟨v, hv⟩; exact ⟨_, hv, rfl⟩
/-- What sorting the map's keys gives. -/
theorem msorted_any {w : World} {X M : Nat} {B : List Kv} (h : MemAt w X M B) :
    Calls Tryz.prog 177 #[.func (.func 181) #[] #[.pointer (some ⟨w.heap.size, 0, none⟩)]] (w.alloc (.cells #[.map (some M)] 52)) fun e w' => ∃ v, e = .returned v ∧ OwnTexts w' w.heap.size v (B.map (·.1)) ∧ Tch [] w w' := by
  obtain ⟨D, h1, h2, h3⟩ := h.hM.owns (H := Unit) (P := Tryz.prog) (K := 9) (by kernel_rfl) (ks := B.map (·.1)) (keys_nodup h.up) (fun k => by rw [mem_keys h.up]; simp) (fun k hk => by
    obtain ⟨e, he, rfl⟩ := List.mem_map.1 hk
    have := h.sz e he
    unfold maxLen; omega) (by have := h.len; rw [List.length_map]; unfold maxLen; omega)
  have hl := h.len
  rw [List.length_map] at h3
  refine (sortedK_any M _ D _ w h1 (by rw [h3]; unfold maxLen; omega) (by rw [h3]; omega)).mono ?_
  rintro e w' ⟨v, ss, rfl, hp, hrow, _, hb⟩
  refine ⟨v, rfl, ?_, ?_⟩
  · have hs := sort_rising (keys_rising h.up) (hp.trans h2)
    rw [hs] at hrow
    have hlen : ss.length = B.length := by have := (hp.trans h2).length_eq; simpa using this
    have e1 : ((B.map (·.1)).map tl).map encStr = (B.map (·.1)).map Value.string := by
      rw [List.map_map]
      apply List.map_congr_left
      intro x _
      show encStr (tl x) = .string x
      unfold encStr
      rfl
    rw [e1, hlen] at hrow
    have : OwnVals w' (w.alloc (.cells #[.map (some M)] 52)).heap.size 9 v ((B.map (·.1)).map Value.string) := by
      unfold OwnVals
      rw [List.length_map, List.length_map]
      exact hrow
    exact this.low (by simp)
  · exact ((Tch.refl [] w).alloc _).trans (Tch.of_below hb (Nat.le_refl _))

theorem listed_len {α : Type} (ks : List α) (P : α → Bool) (m j : Nat) : (((ks.take j).filter P).take m).length ≤ ks.length := by
  rw [List.length_take]
  have h1 := List.length_filter_le P (ks.take j)
  rw [List.length_take] at h1
  omega
set_option maxRecDepth 20000 in
set_option maxHeartbeats 2000000 in
theorem mlist_any {w : World} {X M : Nat} {B : List Kv} (h : MemAt w X M B) (pre after : ByteArray) (most : Int) :
    Calls Tryz.prog 175 #[.pointer (some ⟨X, 0, none⟩), .string pre, .string after, .int .i64 most] w fun e w' => ∃ v, e = .returned (.tuple #[v, .int .i64 0]) ∧ OwnTexts w' w.heap.size v (listed B pre after most.toNat) ∧ Tch [] w w' := by
  have c0 : w.cell? ⟨X, 0, none⟩ = some (.map (some M)) := (cell_of_row w X 0 _ _ _ h.hX).trans (by simp)
  have CS := Lib.hid (msorted_any h)
  have hl := h.len
  clear h
  obtain ⟨ks, hks⟩ : ∃ ks, B.map (·.1) = ks := ⟨_, rfl⟩
  have hkl : ks.length ≤ 100000 := by rw [← hks, List.length_map]; exact hl
  rw [hks] at CS
  have hfin : Hid (listed B pre after most.toNat = (ks.filter fun k => begins k pre && blt after k).take most.toNat) := by
    show _ = _
    unfold listed; rw [hks]
  obtain ⟨m, hm⟩ : ∃ m, most.toNat = m := ⟨_, rfl⟩
  rw [hm] at hfin ⊢
  have HM := Lib.hid hm
  obtain ⟨P, hP⟩ : ∃ P : ByteArray → Bool, (fun k => begins k pre && blt after k) = P := ⟨_, rfl⟩
  have HP := Lib.hid hP
  rw [hP] at hfin
  obtain ⟨n, hn⟩ : ∃ n, ks.length = n := ⟨_, rfl⟩
  have HN := Lib.hid hn
  rw [hn] at hkl
  clear hks hl hm hP hn
  go_enter Tryz.func175, Tryz.ntmps175
  go_wp2_with (go_at_call 178; refine (keys_any _ _).mono ?_; rintro e w' ⟨rfl, rfl⟩)
  refine CS.out.mono ?_
  rintro e w1 ⟨v1, rfl, ho, ht⟩
  have hc := OwnVals.cap_ ho
  rw [List.length_map, HN.out] at hc
  obtain ⟨a, cap, rfl, _, _⟩ := hc
  have O1 := Lib.hid ho
  have T1 := Lib.hid ht
  clear ho ht CS c0
  go_wp2_with fail
  go_loopg [10, 20] n (fun q l i wr => ∃ j, OnAt n i q j ∧ Tch [] w1 wr ∧ OwnTexts wr w1.heap.size l (((ks.take j).filter P).take m))
  case atStart => exact ⟨0, ⟨Nat.zero_le _, rfl, rfl⟩, Tch.refl _ _, by rw [List.take_zero, List.filter_nil, List.take_nil]; exact ownVals_nil _ _ _⟩
  case round =>
    obtain ⟨j, ⟨hj, rfl, rfl⟩, hT, hO⟩ := hrel
    rename_i l
    have hc := OwnVals.cap_ hO
    rw [List.length_map] at hc
    obtain ⟨la, lcap, rfl, _, _⟩ := hc
    have T2 := Lib.hid hT
    have O2 := Lib.hid hO
    have hlen := listed_len ks P m j
    rw [HN.out] at hlen
    obtain ⟨ls, hls⟩ : ∃ ls, ((ks.take j).filter P).take m = ls := ⟨_, rfl⟩
    rw [hls] at O2 hlen ⊢
    have HLS := Lib.hid hls
    obtain ⟨cnt, hcnt⟩ : ∃ cnt, ls.length = cnt := ⟨_, rfl⟩
    have HCNT := Lib.hid hcnt
    rw [hcnt] at O2 hlen ⊢
    clear hT hO hls hcnt
    by_cases hjn : j < n
    · have hx : ks[j]? = some (ks[j]'(by have := HN.out; omega)) := List.getElem?_eq_getElem _
      generalize ks[j]'(by have := HN.out; omega) = k at *
      obtain ⟨b, cap', e1, _, hcell, _⟩ := (OwnVals.kept O1.out T2.out (by simp)).at_ (j := j) (x := .string k) (by rw [List.getElem?_map, hx]; rfl)
      rw [List.length_map, HN.out] at e1
      cases e1
      have HX := Lib.hid hx
      have hstep : Hid (((ks.take (j + 1)).filter P).take m = if P k = true ∧ ls.length < m then ls ++ [k] else ls) := by
        have := take_filter_step ks P m j k hx
        rw [HLS.out] at this
        exact this
      clear hx
      have hpk : Hid (P k = (begins k pre && blt after k)) := by show _ = _; rw [← HP.out]
      have CP : Hid (∀ W, Calls Tryz.prog 79 #[.string k, .string pre] W fun e w' => e = .returned (.bool (begins k pre)) ∧ W = w') := fun W => (Tryz.strings_HasPrefix k pre W).mono fun e w' h => ⟨h.1, h.2.symm⟩
      cases hb : begins k pre with
      | false =>
        rw [hb] at CP hpk
        go_wp2_with (go_at_call 79; refine (CP.out _).mono ?_; rintro e w' ⟨rfl, rfl⟩)
        go_roundg (n - (j + 1))
        case measure => omega
        case rel =>
          refine ⟨j + 1, ⟨by omega, by go_num, rfl⟩, T2.out, ?_⟩
          rw [hstep.out, if_neg (by rw [hpk.out]; simp)]
          exact O2.out
      | true =>
        rw [hb] at CP hpk
        have hbg := bgt_toList k after
        rcases hx1 : Op.bytesLess k.toList after.toList with _ | _
        · rcases hx2 : (k.toList == after.toList) with _ | _
          · rw [hx1, hx2] at hbg
            have hP1 : Hid (P k = true) := by show _ = _; rw [hpk.out, ← hbg]; rfl
            clear hbg
            by_cases hlm : cnt < m
            · have hlm' : (cnt : Int) < most := by have := HM.out; omega
              go_wp2_with (first
                | (go_at_call 79; refine (CP.out _).mono ?_; rintro e w' ⟨rfl, rfl⟩)
                | (at_builtin; (with_reducible refine wc_append_of (x := .tmp 38) (y := .tmp 40) (u := .slice (some ⟨wr.heap.size, 0, none⟩) 1 1) (m := [.string k]) txtT (by decide) (OwnVals.kept O2.out ((Tch.refl [] _).alloc _) (by simp)) (by have := T2.out.size; simp; omega) (by rw [List.length_map, HCNT.out, List.length_singleton]; omega) rfl rfl ?_ ?_ (one_valsV (x := .string k) (cell_one_at _ _ _)) (one_str _) ?_); exact rfl; exact rfl; intro v5 w5 ho ht; go_frame; have O5 := Lib.hid ho; have T5 := Lib.hid ht; clear ho ht))
              go_roundg (n - (j + 1))
              case measure => omega
              case rel =>
                refine ⟨j + 1, ⟨by omega, by go_num, rfl⟩, ?_, ?_⟩
                · exact own_on (T2.out.alloc _) (OwnVals.kept O2.out ((Tch.refl [] _).alloc _) (by simp)) (Nat.le_refl _) T5.out
                · rw [hstep.out, if_pos ⟨hP1.out, by rw [HCNT.out]; exact hlm⟩]
                  have := O5.out
                  unfold OwnTexts
                  rw [List.map_append]
                  exact this
            · have hlm' : ¬ (cnt : Int) < most := by have := HM.out; omega
              go_wp2_with (go_at_call 79; refine (CP.out _).mono ?_; rintro e w' ⟨rfl, rfl⟩)
              go_roundg (n - (j + 1))
              case measure => omega
              case rel =>
                refine ⟨j + 1, ⟨by omega, by go_num, rfl⟩, T2.out, ?_⟩
                rw [hstep.out, if_neg (by rw [HCNT.out]; omega)]
                exact O2.out
          · rw [hx1, hx2] at hbg
            have hP1 : Hid (P k = false) := by show _ = _; rw [hpk.out, ← hbg]; rfl
            clear hbg
            go_wp2_with (go_at_call 79; refine (CP.out _).mono ?_; rintro e w' ⟨rfl, rfl⟩)
            go_roundg (n - (j + 1))
            case measure => omega
            case rel =>
              refine ⟨j + 1, ⟨by omega, by go_num, rfl⟩, T2.out, ?_⟩
              rw [hstep.out, if_neg (by rw [hP1.out]; simp)]
              exact O2.out
        · rw [hx1] at hbg
          have hP1 : Hid (P k = false) := by show _ = _; rw [hpk.out, ← hbg]; simp
          clear hbg
          go_wp2_with (go_at_call 79; refine (CP.out _).mono ?_; rintro e w' ⟨rfl, rfl⟩)
          go_roundg (n - (j + 1))
          case measure => omega
          case rel =>
            refine ⟨j + 1, ⟨by omega, by go_num, rfl⟩, T2.out, ?_⟩
            rw [hstep.out, if_neg (by rw [hP1.out]; simp)]
            exact O2.out
    · go_wp2_with fail
      go_ret2
      have e1 : ((ks.take j).filter P).take m = ls := HLS.out
      have e2 : ks.take j = ks := List.take_of_length_le (by have := HN.out; omega)
      rw [e2] at e1
      rw [hfin.out, e1]
      exact ⟨_, rfl, OwnVals.low O2.out T1.out.size, T1.out.trans T2.out⟩
end Go.Proofs.YtcdgeeoajhbneaaGreat
