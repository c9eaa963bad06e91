/-
  Small laws, for any program: maps keyed by texts; 'delete'; a map's keys, sorted.
-/
import Derived.Test.YtkjgbhpnlgcinaaGreatDoorMB
import Derived.Test.YtkjgbhpnlgcinaaGreatDoorMBookP
import Derived.Sort.KeysCollected
import Derived.Maps.Own
namespace Go.Cib
open Go Go.RowKit
def kStr (s : ByteArray) : Value := .string s
theorem keyT_str {P : Program} {K : TypeId} (h : P.underlying K = some .string) : KeyT P K kStr where
  check e k w := by
    have hs : ∀ n, (Instr.checkKey e (n + 1) K (kStr k)).run P w = .ok () w := fun n => by
      unfold Instr.checkKey
      rw [Sem.run_bind, run_underlying h w]
      rfl
    exact hs 9999
  same := ⟨_, h, fun a b => by
    simp only [Instr.sameNow, kStr]
    congr 1
    rw [Bool.eq_iff_iff, MapKept.bytes_beq, decide_eq_true_eq]⟩
  bits k := by
    have hs : ∀ n, Instr.sameBits n (kStr k) (kStr k) = true := fun n => by unfold Instr.sameBits kStr; exact (MapKept.bytes_beq k k).2 rfl
    exact hs 10000
  inj a b h := by simpa [kStr] using h
/-- The map without one key. -/
def rem {κ : Type} [DecidableEq κ] (f : κ → Option Value) (k : κ) : κ → Option Value := fun j => if j = k then none else f j
section
variable {κ : Type} [DecidableEq κ] {P : Program} {K : TypeId} {key : κ → Value} {clk : Nat}
theorem MapIs.erase (hinj : ∀ a b, key a = key b → a = b) {es : List MapEntry} {f : κ → Option Value} (h : MapIs key es clk f) {k : κ} {i : Nat} {e : MapEntry} (hi : es[i]? = some e) (hk : e.key = key k) : MapIs key (es.eraseIdx i) clk (rem f k) := by
  have hsub : (es.eraseIdx i).Sublist es := List.eraseIdx_sublist es i
  refine ⟨fun x hx => h.keys x (hsub.subset hx), h.apart.sublist hsub, h.stamps.sublist (hsub.map _), fun x hx => h.clock x (hsub.subset hx), fun j v => ?_⟩
  unfold rem
  have hmem : ∀ x, x ∈ es.eraseIdx i ↔ x ∈ es ∧ x.key ≠ key k := by
    intro x
    constructor
    · intro hx
      refine ⟨hsub.subset hx, fun hxk => ?_⟩
      obtain ⟨m, hm⟩ := List.mem_iff_getElem?.1 hx
      rw [List.getElem?_eraseIdx] at hm
      split at hm
      · have := pairwise_key_eq h.apart hm hi (hxk.trans hk.symm)
        omega
      · have := pairwise_key_eq h.apart hm hi (hxk.trans hk.symm)
        omega
    · rintro ⟨hx, hxk⟩
      obtain ⟨m, hm⟩ := List.mem_iff_getElem?.1 hx
      have hmi : m ≠ i := by
        rintro rfl
        rw [hi] at hm
        exact hxk (by rw [← Option.some.inj hm]; exact hk)
      rw [List.mem_iff_getElem?]
      rcases Nat.lt_or_ge m i with h1 | h1
      · exact ⟨m, by rw [List.getElem?_eraseIdx, if_pos h1]; exact hm⟩
      · refine ⟨m - 1, ?_⟩
        rw [List.getElem?_eraseIdx, if_neg (by omega), show m - 1 + 1 = m by omega]
        exact hm
  by_cases e1 : j = k
  · subst e1
    simp only [if_true]
    constructor
    · intro h1; cases h1
    · rintro ⟨x, hx, h1, _⟩
      exact absurd h1 ((hmem x).1 hx).2
  · rw [if_neg e1, h.reads]
    constructor
    · rintro ⟨x, hx, h1, h2⟩
      exact ⟨x, (hmem x).2 ⟨hx, fun h3 => e1 (hinj _ _ (h1.symm.trans h3))⟩, h1, h2⟩
    · rintro ⟨x, hx, h1, h2⟩
      exact ⟨x, ((hmem x).1 hx).1, h1, h2⟩
theorem rem_none {f : κ → Option Value} {k : κ} (h : f k = none) : rem f k = f := by
  funext j
  unfold rem
  split
  · rename_i e; rw [e, h]
  · rfl
theorem run_delete {T E : TypeId} (hK : KeyT P K key) (hT : P.underlying T = some (.map K E)) {w : World} {M : Nat} {f : κ → Option Value} (h : MapAt key w M f) (k : κ) {ty : TypeId} {ts : Array TypeId} (hts : ts[0]? = some T) :
    ∃ o, (Builtin.delete_ ts ty #[.map (some M), key k]).run P w = .ok (.tuple #[]) (putObj w M o) ∧ MapAt key (putObj w M o) M (rem f k) := by
  obtain ⟨es, clk, hM, hf⟩ := h
  obtain ⟨d, hd, _⟩ := hK.same
  rcases findNow_spec hK hd k es.toList 0 hf.keys with ⟨h1, h2⟩ | ⟨i, e, h1, h2, h3⟩
  · refine ⟨.map es clk, ?_, _, _, heap_putObj_same w M _ (lt_of_heap hM), ?_⟩
    · simp [Builtin.delete_, hts, run_underlying hT, MapKept.run_getObj_map hM, hK.check, Instr.findKey, run_underlying hd, h1, run_setObj_map _ hM]
    · rw [rem_none (hf.none_of h2)]; exact hf
  · refine ⟨.map (es.eraseIdxIfInBounds i) clk, ?_, _, _, heap_putObj_same w M _ (lt_of_heap hM), ?_⟩
    · simp [Builtin.delete_, hts, run_underlying hT, MapKept.run_getObj_map hM, hK.check, Instr.findKey, run_underlying hd, h1, run_setObj_map _ hM]
    · have hi : i < es.size := by have := (List.getElem?_eq_some_iff.1 h2).1; simpa using this
      have e1 : (es.eraseIdxIfInBounds i).toList = es.toList.eraseIdx i := by
        simp
      rw [e1]; exact hf.erase hK.inj h2 h3
section ops
variable {ops : Array Oper} {rest : List Oper} {a : Act} {w : World} {Q : Exit → Act → World → Prop} {T E : TypeId} {m k : Operand} {M : Nat} {f : κ → Option Value} {dst : Option Tmp} {ty : TypeId} {pos : String} {af : Array Edge}
theorem wc_delete (hK : KeyT P K key) (hT : P.underlying T = some (.map K E)) (h : MapAt key w M f) {kk : κ} {ar : Array Operand} {ts : Array TypeId} (har : ar = #[m, k]) (hts : ts[0]? = some T) (hm : a.eval m = .map (some M)) (hk : a.eval k = key kk)
    (h' : ∀ w', Tch [M] w w' → MapAt key w' M (rem f kk) → wpList P ops Q rest (a.put dst (.tuple #[])) w') : wpList P ops Q (⟨dst, .call { callee := .builtin .delete, args := ar, argTypes := ts }, ty, pos, af, none⟩ :: rest) a w := by
  subst har
  obtain ⟨ob, hr, hm'⟩ := run_delete hK hT h kk (ty := ty) hts
  refine wc_value rfl (w' := putObj w M ob) ?_ (h' _ ((Tch.refl _ _).putObj (by simp) _) hm')
  unfold execOp
  simp only [resolve, invoke, builtin, Sem.run_bind, Sem.run_pure, Result.andThen_ok, List.map_toArray, List.map_cons, List.map_nil, hm, hk, hr]
end ops
end
/-- The keys of a map, as the library's sorting knows them. -/
theorem MapAt.owns {H : Type} {P : Program} {K : TypeId} (hk : P.underlying K = some .string) {w : World} {M : Nat} {f : ByteArray → Option Value} (h : MapAt kStr w M f) {ks : List ByteArray} (hn : ks.Nodup) (hm : ∀ k, k ∈ ks ↔ (f k).isSome = true) (hsz : ∀ k ∈ ks, k.size ≤ maxLen) (hl : ks.length ≤ maxLen) :
    ∃ D : DataW H, w.ownsMap P K (fun _ => some (.lit (.bool true), [])) M ks.length D ∧ (strKeys D).Perm (ks.map tl) ∧ Maps.size D = ks.length := by
  obtain ⟨es, clk, hM, hf⟩ := h
  obtain ⟨es', hes⟩ : ∃ ls : List ByteArray, es.toList.map (·.key) = ls.map kStr := by
    have key : ∀ l : List MapEntry, (∀ e ∈ l, ∃ k, e.key = kStr k) → ∃ ls : List ByteArray, l.map (·.key) = ls.map kStr := by
      intro l
      induction l with
      | nil => exact fun _ => ⟨[], rfl⟩
      | cons x l ih =>
        intro hx
        obtain ⟨k, hk⟩ := hx x (by simp)
        obtain ⟨ls, hls⟩ := ih fun e he => hx e (by simp [he])
        exact ⟨k :: ls, by simp [hk, hls]⟩
    exact key _ hf.keys
  have hnd : es'.Nodup := by
    have h1 : (es.toList.map (·.key)).Pairwise (· ≠ ·) := List.pairwise_map.2 hf.apart
    rw [hes] at h1
    have := List.pairwise_map.1 h1
    exact this.imp fun hne e => hne (by rw [e])
  have hmem : ∀ k, k ∈ es' ↔ (f k).isSome = true := by
    intro k
    constructor
    · intro hk'
      have h1 : kStr k ∈ es.toList.map (·.key) := by rw [hes]; exact List.mem_map.2 ⟨k, hk', rfl⟩
      obtain ⟨e, he, hek⟩ := List.mem_map.1 h1
      rw [(hf.reads k e.val).2 ⟨e, he, hek, rfl⟩]; rfl
    · intro hk'
      obtain ⟨v, hv⟩ := Option.isSome_iff_exists.1 hk'
      obtain ⟨e, he, hek, _⟩ := (hf.reads k v).1 hv
      have h1 : e.key ∈ es'.map kStr := by rw [← hes]; exact List.mem_map.2 ⟨e, he, rfl⟩
      obtain ⟨j, hj, hjk⟩ := List.mem_map.1 h1
      have : j = k := by
        have := hjk.trans hek
        simpa [kStr] using this
      rw [← this]; exact hj
  have hp : es'.Perm ks := (List.perm_ext_iff_of_nodup hnd hn).2 fun k => by rw [hmem, hm]
  have hlen : es.size = ks.length := by
    have h1 := congrArg List.length hes
    rw [List.length_map, List.length_map, hp.length_eq] at h1
    simpa using h1
  let R : Value → Option (DataW H × List MemPlace) := fun _ => some (.lit (.bool true), [])
  have hrd : ∀ (x : MapEntry) (k : ByteArray), k ∈ es' → x.key = kStr k → WideElems.rd P K R x = some (.string (tl k), .lit (.bool true)) := by
    intro x k hk' hx
    unfold WideElems.rd
    rw [hx]
    show (Go.keyOf P K (.string k)).bind _ = _
    rw [WideMaps.keyOf_string_mk hk (hsz k (hp.mem_iff.1 hk'))]
    rfl
  have hin : ∀ x ∈ es.toList, ∃ k ∈ es', x.key = kStr k := by
    intro x hx
    have h1 : x.key ∈ es'.map kStr := by rw [← hes]; exact List.mem_map.2 ⟨x, hx, rfl⟩
    obtain ⟨k, hk', e⟩ := List.mem_map.1 h1
    exact ⟨k, hk', e.symm⟩
  have hrg : es.toList.map (WideElems.rg P K R) = es'.map fun k => (Lit.string (tl k), DataW.lit (.bool true)) := by
    have key : ∀ (l : List MapEntry) (ls : List ByteArray), l.map (·.key) = ls.map kStr → (∀ k ∈ ls, k ∈ es') → l.map (WideElems.rg P K R) = ls.map fun k => (Lit.string (tl k), DataW.lit (.bool true)) := by
      intro l
      induction l with
      | nil => intro ls h1 _; cases ls with
        | nil => rfl
        | cons _ _ => cases h1
      | cons x l ih =>
        intro ls h1 h2
        cases ls with
        | nil => cases h1
        | cons k ls =>
          simp only [List.map_cons, List.cons.injEq] at h1 ⊢
          refine ⟨?_, ih ls h1.2 fun j hj => h2 j (by simp [hj])⟩
          unfold WideElems.rg
          rw [hrd x k (h2 k (by simp)) h1.1]
          rfl
    exact key _ _ hes fun k hk' => hk'
  refine ⟨.map ((es.toList.map (WideElems.rg P K R)).foldr DataW.insert []), ⟨es, clk, hM, ⟨by rw [hlen]; exact hl, ⟨hf.clock, hf.stamps, ?_⟩, fun x hx => ?_⟩, by rw [hlen]; exact Nat.le_refl _, rfl⟩, ?_, ?_⟩
  · exact List.pairwise_map.2 hf.apart
  · obtain ⟨k, hk', e⟩ := hin x hx
    exact ⟨_, hrd x k hk' e⟩
  · show ((es.toList.map (WideElems.rg P K R)).foldr DataW.insert [] |>.map fun p => strOf p.1).Perm _
    rw [hrg]
    refine ((WideShapes.sorted_perm _).map _).trans ?_
    rw [List.map_map]
    exact hp.map _
  · show ((es.toList.map (WideElems.rg P K R)).foldr DataW.insert []).length = _
    rw [length_sorted, List.length_map, ← hlen]
    simp
/-- Sorted texts are what they are. -/
theorem sort_rising {ks : List ByteArray} (hs : ks.Pairwise fun a b => blt a b = true) {ss : List (List UInt8)} (hp : ss.Perm (ks.map tl)) : (ss.mergeSort fun x y => decide (x ≤ y)) = ks.map tl := by
  have h1 : (ss.mergeSort fun x y => decide (x ≤ y)).Pairwise (· ≤ ·) := by
    have := List.pairwise_mergeSort (le := fun (x y : List UInt8) => decide (x ≤ y)) (by intro a b c; simp only [decide_eq_true_eq]; exact fun h1 h2 => List.le_trans h1 h2) (by intro a b; simp only [Bool.or_eq_true, decide_eq_true_eq]; exact List.le_total a b) ss
    exact this.imp fun h => by simpa using h
  have h2 : (ks.map tl).Pairwise (· ≤ ·) := List.pairwise_map.2 (hs.imp fun h => List.le_of_lt (blt_iff.1 h))
  exact List.Perm.eq_of_pairwise (le := (· ≤ ·)) (fun a b _ _ h1 h2 => List.le_antisymm h1 h2) h1 h2 ((List.mergeSort_perm ss _).trans hp)
end Go.Cib
