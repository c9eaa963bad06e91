/-
  Small laws, for any program: maps whose keys are plain (numbers, texts), as functions from keys to values; ranging over one.
-/
import Derived.Test.YtkjgbhpnlgcinaaGreatDoorMBase
import Derived.MapKept
import GoSem.Instr.Next
import GoSem.Instr.Entry
import GoSem.Instr.Range
import GoSem.Builtin.Clear
import GoSem.Builtin.Delete
namespace Go.Cib
open Go Go.RowKit

/-- Values of type K that are keys, told by κ. -/
structure KeyT (P : Program) (K : TypeId) {κ : Type} [DecidableEq κ] (key : κ → Value) : Prop where
  check : ∀ (e : Bool) (k : κ) (w : World), (Instr.checkKey e 10000 K (key k)).run P w = .ok () w
  same : ∃ d, P.underlying K = some d ∧ ∀ a b, Instr.sameNow d (key a) (key b) = some (decide (a = b))
  bits : ∀ k, Instr.sameBits 10000 (key k) (key k) = true
  inj : ∀ a b, key a = key b → a = b

def kInt (n : Int) : Value := .int .i64 n
theorem keyT_int {P : Program} {K : TypeId} (h : P.underlying K = some (.int .i64)) : KeyT P K kInt where
  check e k w := by
    have hs : ∀ n, (Instr.checkKey e (n + 1) K (kInt k)).run P w = .ok () w := fun n => by
      unfold Instr.checkKey
      rw [Sem.run_bind, run_underlying h w]
      rfl
    exact hs 9999
  same := ⟨_, h, fun a b => by simp [Instr.sameNow, kInt]; rfl⟩
  bits k := by
    have hs : ∀ n, Instr.sameBits n (kInt k) (kInt k) = true := fun n => by unfold Instr.sameBits kInt; simp
    exact hs 10000
  inj a b h := by simpa [kInt] using h

/-- The entries es read as the function f. -/
structure MapIs {κ : Type} (key : κ → Value) (es : List MapEntry) (clk : Nat) (f : κ → Option Value) : Prop where
  keys : ∀ e ∈ es, ∃ k, e.key = key k
  apart : es.Pairwise fun x y => x.key ≠ y.key
  stamps : (es.map (·.born)).Nodup
  clock : ∀ e ∈ es, e.born < clk
  reads : ∀ k v, f k = some v ↔ ∃ e ∈ es, e.key = key k ∧ e.val = v

section
variable {κ : Type} [DecidableEq κ] {P : Program} {K : TypeId} {key : κ → Value} {clk : Nat}

omit [DecidableEq κ] in
theorem mapIs_nil (key : κ → Value) (clk : Nat) : MapIs key [] clk (fun _ => none) := ⟨by simp, by simp, by simp, by simp, by simp⟩

/-- Where a key lies among the entries. -/
theorem findNow_spec (hK : KeyT P K key) {d : TypeDesc} (hd : P.underlying K = some d) (k : κ) : ∀ (es : List MapEntry) (n : Nat), (∀ e ∈ es, ∃ k, e.key = key k) →
    (Instr.findNow d (key k) es n = some none ∧ ∀ e ∈ es, e.key ≠ key k) ∨
    ∃ i e, Instr.findNow d (key k) es n = some (some (n + i, e.val)) ∧ es[i]? = some e ∧ e.key = key k := by
  obtain ⟨d', hd', hs⟩ := hK.same
  have hdd : d' = d := by rw [hd'] at hd; simpa using hd
  subst hdd
  intro es
  induction es with
  | nil => intro n _; left; simp [Instr.findNow]
  | cons e es ih =>
    intro n hkeys
    obtain ⟨k', hk'⟩ := hkeys e (by simp)
    by_cases hkk : k = k'
    · subst hkk
      right
      refine ⟨0, e, ?_, by simp, hk'⟩
      simp [Instr.findNow, hk', hs]
    · have hne : e.key ≠ key k := fun h => hkk (hK.inj _ _ (by rw [← hk', h]))
      rcases ih (n + 1) (fun x hx => hkeys x (by simp [hx])) with ⟨h1, h2⟩ | ⟨i, e', h1, h2, h3⟩
      · left
        refine ⟨by simp [Instr.findNow, hk', hs, hkk, h1], ?_⟩
        intro x hx
        rcases List.mem_cons.1 hx with rfl | hx
        · exact hne
        · exact h2 x hx
      · right
        refine ⟨i + 1, e', ?_, by simpa using h2, h3⟩
        have : n + (i + 1) = n + 1 + i := by omega
        simp [Instr.findNow, hk', hs, hkk, h1, this]

omit [DecidableEq κ] in
theorem MapIs.some_of {es : List MapEntry} {f : κ → Option Value} (h : MapIs key es clk f) {i : Nat} {e : MapEntry} (hi : es[i]? = some e) {k : κ} (hk : e.key = key k) : f k = some e.val :=
  (h.reads k e.val).2 ⟨e, List.mem_of_getElem? hi, hk, rfl⟩
omit [DecidableEq κ] in
theorem MapIs.none_of {es : List MapEntry} {f : κ → Option Value} (h : MapIs key es clk f) {k : κ} (hk : ∀ e ∈ es, e.key ≠ key k) : f k = none := by
  cases hf : f k with
  | none => rfl
  | some v => obtain ⟨e, he, hek, _⟩ := (h.reads k v).1 hf; exact absurd hek (hk e he)

theorem pairwise_key_eq {es : List MapEntry} (h : es.Pairwise fun x y => x.key ≠ y.key) : ∀ {i j : Nat} {a b : MapEntry}, es[i]? = some a → es[j]? = some b → a.key = b.key → i = j := by
  intro i j a b ha hb hab
  obtain ⟨hi, rfl⟩ := List.getElem?_eq_some_iff.1 ha
  obtain ⟨hj, rfl⟩ := List.getElem?_eq_some_iff.1 hb
  have hp := List.pairwise_iff_getElem.1 h
  rcases Nat.lt_trichotomy i j with hl | hl | hl
  · exact absurd hab (hp i j hi hj hl)
  · exact hl
  · exact absurd hab.symm (hp j i hj hi hl)

/-- The map with one key laid. -/
def upd (f : κ → Option Value) (k : κ) (v : Value) : κ → Option Value := fun j => if j = k then some v else f j

theorem MapIs.push (hinj : ∀ a b, key a = key b → a = b) {es : List MapEntry} {f : κ → Option Value} (h : MapIs key es clk f) {k : κ} (hk : ∀ e ∈ es, e.key ≠ key k) (v : Value) :
    MapIs key (es ++ [{ key := key k, val := v, born := clk }]) (clk + 1) (upd f k v) where
  keys e he := by
    rcases List.mem_append.1 he with he | he
    · exact h.keys e he
    · exact ⟨k, by simp at he; rw [he]⟩
  apart := by
    rw [List.pairwise_append]
    refine ⟨h.apart, by simp, fun a ha b hb => ?_⟩
    simp only [List.mem_singleton] at hb
    subst hb
    exact hk a ha
  stamps := by
    rw [List.map_append]
    refine List.nodup_append.2 ⟨h.stamps, by simp, ?_⟩
    intro a ha b hb
    obtain ⟨x, hx, rfl⟩ := List.mem_map.1 ha
    simp at hb
    subst hb
    exact Nat.ne_of_lt (h.clock x hx)
  clock e he := by
    rcases List.mem_append.1 he with he | he
    · have := h.clock e he; omega
    · simp at he; rw [he]; simp
  reads j u := by
    unfold upd
    by_cases e : j = k
    · subst e
      simp only [if_true, Option.some.injEq]
      constructor
      · rintro rfl; exact ⟨_, List.mem_append_right _ (List.mem_singleton.2 rfl), rfl, rfl⟩
      · rintro ⟨x, hx, hxk, rfl⟩
        rcases List.mem_append.1 hx with hx | hx
        · exact absurd hxk (hk x hx)
        · simp at hx; rw [hx]
    · rw [if_neg e, h.reads]
      constructor
      · rintro ⟨x, hx, h1, h2⟩; exact ⟨x, List.mem_append_left _ hx, h1, h2⟩
      · rintro ⟨x, hx, h1, h2⟩
        rcases List.mem_append.1 hx with hx | hx
        · exact ⟨x, hx, h1, h2⟩
        · simp at hx; subst hx; exact absurd (hinj _ _ h1).symm e

theorem MapIs.modify {es : List MapEntry} {f : κ → Option Value} (hinj : ∀ a b, key a = key b → a = b) (h : MapIs key es clk f) {k : κ} {i : Nat} {e : MapEntry} (hi : es[i]? = some e) (hk : e.key = key k) (v : Value) :
    MapIs key (es.modify i fun e => { e with key := key k, val := v }) clk (upd f k v) := by
  have hget : ∀ j, (es.modify i fun e => { e with key := key k, val := v })[j]? = (es[j]?).map fun x => if j = i then { x with key := key k, val := v } else x := by
    intro j
    rw [List.getElem?_modify]
    by_cases hij : i = j
    · simp [hij]
    · simp [hij, Ne.symm hij]
  have hkeys : (es.modify i fun e => { e with key := key k, val := v }).map (·.key) = es.map (·.key) := by
    apply List.ext_getElem?
    intro j
    rw [List.getElem?_map, hget, List.getElem?_map]
    cases hj : es[j]? with
    | none => simp
    | some x =>
      by_cases hij : j = i
      · subst hij; rw [hi] at hj; cases hj; simp [hk]
      · simp [hij]
  have hborn : (es.modify i fun e => { e with key := key k, val := v }).map (·.born) = es.map (·.born) := by
    apply List.ext_getElem?
    intro j
    rw [List.getElem?_map, hget, List.getElem?_map]
    cases es[j]? with
    | none => simp
    | some x => by_cases hij : j = i <;> simp [hij]
  have hmem : ∀ x, x ∈ (es.modify i fun e => { e with key := key k, val := v }) ↔ ∃ j y, es[j]? = some y ∧ x = (if j = i then { y with key := key k, val := v } else y) := by
    intro x
    rw [List.mem_iff_getElem?]
    constructor
    · rintro ⟨j, hj⟩
      rw [hget] at hj
      cases hy : es[j]? with
      | none => simp [hy] at hj
      | some y => simp [hy] at hj; exact ⟨j, y, hy, hj.symm⟩
    · rintro ⟨j, y, hy, rfl⟩
      exact ⟨j, by rw [hget, hy]; rfl⟩
  refine ⟨?_, ?_, ?_, ?_, ?_⟩
  · intro x hx
    obtain ⟨j, y, hy, rfl⟩ := (hmem x).1 hx
    by_cases hij : j = i
    · exact ⟨k, by simp [hij]⟩
    · simp only [hij, if_false]; exact h.keys y (List.mem_of_getElem? hy)
  · have h1 : (es.map (·.key)).Pairwise (· ≠ ·) := List.pairwise_map.2 h.apart
    rw [← hkeys] at h1
    exact List.pairwise_map.1 h1
  · rw [hborn]; exact h.stamps
  · intro x hx
    obtain ⟨j, y, hy, rfl⟩ := (hmem x).1 hx
    have := h.clock y (List.mem_of_getElem? hy)
    by_cases hij : j = i <;> simp [hij, this]
  · intro j u
    unfold upd
    by_cases ej : j = k
    · subst ej
      simp only [if_true, Option.some.injEq]
      constructor
      · rintro rfl
        exact ⟨_, (hmem _).2 ⟨i, e, hi, rfl⟩, by simp, by simp⟩
      · rintro ⟨x, hx, hxk, rfl⟩
        obtain ⟨m, y, hy, rfl⟩ := (hmem x).1 hx
        by_cases hmi : m = i
        · simp [hmi]
        · simp only [hmi, if_false] at hxk
          exact absurd (pairwise_key_eq h.apart hy hi (hxk.trans hk.symm)) hmi
    · rw [if_neg ej, h.reads]
      constructor
      · rintro ⟨x, hx, h1, h2⟩
        obtain ⟨m, hm⟩ := List.mem_iff_getElem?.1 hx
        have hmi : m ≠ i := fun hmi => by subst hmi; rw [hi] at hm; cases hm; exact ej (hinj _ _ (h1.symm.trans hk))
        exact ⟨x, (hmem x).2 ⟨m, x, hm, by simp [hmi]⟩, h1, h2⟩
      · rintro ⟨x, hx, h1, h2⟩
        obtain ⟨m, y, hy, rfl⟩ := (hmem x).1 hx
        by_cases hmi : m = i
        · simp only [hmi, if_true] at h1; exact absurd (hinj _ _ h1).symm ej
        · simp only [hmi, if_false] at h1 h2; exact ⟨y, List.mem_of_getElem? hy, h1, h2⟩

/-- Block M is a map that reads as f. -/
def MapAt (key : κ → Value) (w : World) (M : Nat) (f : κ → Option Value) : Prop :=
  ∃ es clk, w.heap[M]? = some (.map es clk) ∧ MapIs key es.toList clk f

omit [DecidableEq κ] in
theorem MapAt.lt {w : World} {M : Nat} {f : κ → Option Value} (h : MapAt key w M f) : M < w.heap.size := by
  obtain ⟨es, clk, hM, _⟩ := h; exact lt_of_heap hM
omit [DecidableEq κ] in
theorem MapAt.touch {w w' : World} {M : Nat} {S : List Nat} {f : κ → Option Value} (h : MapAt key w M f) (ht : Tch S w w') (hn : M ∉ S) : MapAt key w' M f := by
  obtain ⟨es, clk, hM, hf⟩ := h; exact ⟨es, clk, ht.heap hM hn, hf⟩
omit [DecidableEq κ] in
theorem MapAt.congr {w w' : World} {M : Nat} {f : κ → Option Value} (h : MapAt key w M f) (he : w'.heap[M]? = w.heap[M]?) : MapAt key w' M f := by
  obtain ⟨es, clk, hM, hf⟩ := h; exact ⟨es, clk, he.trans hM, hf⟩

theorem run_lookup {T E : TypeId} (hK : KeyT P K key) (hT : P.underlying T = some (.map K E)) {w : World} {z : Value} (hz : (zeroValue E).run P w = .ok z w) {M : Nat} {f : κ → Option Value} (h : MapAt key w M f) (k : κ) (ok : Bool) :
    (Instr.lookup T (.map (some M)) (key k) ok).run P w =
      .ok (if ok then .tuple #[(f k).getD z, .bool (f k).isSome] else (f k).getD z) w := by
  obtain ⟨es, clk, hM, hf⟩ := h
  obtain ⟨d, hd, _⟩ := hK.same
  rcases findNow_spec hK hd k es.toList 0 hf.keys with ⟨h1, h2⟩ | ⟨i, e, h1, h2, h3⟩
  · have hn := hf.none_of h2
    cases ok <;> simp [Instr.lookup, run_underlying hT, MapKept.run_getObj_map hM, hK.check, Instr.findKey, run_underlying hd, h1, hz, hn]
  · have hn := hf.some_of h2 h3
    cases ok <;> simp [Instr.lookup, run_underlying hT, MapKept.run_getObj_map hM, hK.check, Instr.findKey, run_underlying hd, h1, hn]

theorem run_setObj_map {w : World} {r : Nat} {es : Array MapEntry} {clock : Nat} (o : Obj) (hb : w.heap[r]? = some (.map es clock)) : (setObj r o).run P w = .ok () (putObj w r o) := MapKept.run_setObj_map o hb

theorem toList_modify' (a : Array MapEntry) (i : Nat) (f : MapEntry → MapEntry) : (a.modify i f).toList = a.toList.modify i f := by
  simp

theorem run_mapUpdate {T E : TypeId} (hK : KeyT P K key) (hT : P.underlying T = some (.map K E)) {w : World} {M : Nat} {f : κ → Option Value} (h : MapAt key w M f) (k : κ) (v : Value) :
    ∃ o, (Instr.mapUpdate T (.map (some M)) (key k) v).run P w = .ok () (putObj w M o) ∧ MapAt key (putObj w M o) M (upd f k v) := by
  obtain ⟨es, clk, hM, hf⟩ := h
  obtain ⟨d, hd, _⟩ := hK.same
  rcases findNow_spec hK hd k es.toList 0 hf.keys with ⟨h1, h2⟩ | ⟨i, e, h1, h2, h3⟩
  · refine ⟨.map (es.push { key := key k, val := v, born := clk }) (clk + 1), ?_, _, _, heap_putObj_same w M _ (lt_of_heap hM), ?_⟩
    · simp [Instr.mapUpdate, run_underlying hT, MapKept.run_getObj_map hM, hK.check, Instr.findKey, run_underlying hd, h1, run_setObj_map _ hM]
    · rw [Array.toList_push]; exact hf.push hK.inj h2 v
  · refine ⟨.map (es.modify i fun e => { e with key := key k, val := v }) clk, ?_, _, _, heap_putObj_same w M _ (lt_of_heap hM), ?_⟩
    · have he : es[i]? = some e := by simpa using h2
      simp [Instr.mapUpdate, run_underlying hT, MapKept.run_getObj_map hM, hK.check, Instr.findKey, run_underlying hd, h1, he, Instr.keyThatStays, h3, hK.bits, run_setObj_map _ hM]
    · rw [toList_modify']; exact hf.modify hK.inj h2 h3 v

omit [DecidableEq κ] in
theorem run_clear {T : TypeId} {d : TypeDesc} (hT : P.underlying T = some d) {w : World} {M : Nat} {f : κ → Option Value} (h : MapAt key w M f) {ty : TypeId} :
    ∃ o, (Builtin.clear_ #[T] ty #[.map (some M)]).run P w = .ok (.tuple #[]) (putObj w M o) ∧ MapAt key (putObj w M o) M (fun _ => none) := by
  obtain ⟨es, clk, hM, hf⟩ := h
  refine ⟨.map #[] clk, ?_, _, _, heap_putObj_same w M _ (lt_of_heap hM), mapIs_nil key clk⟩
  simp [Builtin.clear_, run_underlying hT, MapKept.run_getObj_map hM, run_setObj_map _ hM]

omit [DecidableEq κ] in
theorem mapAt_new (key : κ → Value) (w : World) : MapAt key (w.alloc (.map #[] 0)) w.heap.size (fun _ => none) :=
  ⟨#[], 0, heap_alloc_new w _, mapIs_nil key 0⟩

/-- R goes over the map M, which reads as f; what has come is g; cnt are still to come. -/
def IterAt (key : κ → Value) (w : World) (R M : Nat) (f g : κ → Option Value) (cnt : Nat) : Prop :=
  ∃ es clk seen, w.heap[M]? = some (.map es clk) ∧ MapIs key es.toList clk f ∧ w.heap[R]? = some (.mapIter (some M) clk seen clk) ∧
    (∀ k v, g k = some v ↔ ∃ e ∈ es.toList, e.born ∈ seen ∧ e.key = key k ∧ e.val = v) ∧ cnt = (es.toList.filter fun e => !seen.contains e.born).length

omit [DecidableEq κ] in
theorem IterAt.map {w : World} {R M : Nat} {f g : κ → Option Value} {cnt : Nat} (h : IterAt key w R M f g cnt) : MapAt key w M f := by
  obtain ⟨es, clk, seen, h1, h2, _⟩ := h; exact ⟨es, clk, h1, h2⟩
omit [DecidableEq κ] in
theorem IterAt.touch {w w' : World} {R M : Nat} {S : List Nat} {f g : κ → Option Value} {cnt : Nat} (h : IterAt key w R M f g cnt) (ht : Tch S w w') (hR : R ∉ S) (hM : M ∉ S) : IterAt key w' R M f g cnt := by
  obtain ⟨es, clk, seen, h1, h2, h3, h4⟩ := h; exact ⟨es, clk, seen, ht.heap h1 hM, h2, ht.heap h3 hR, h4⟩
omit [DecidableEq κ] in
theorem IterAt.ne {w : World} {R M : Nat} {f g : κ → Option Value} {cnt : Nat} (h : IterAt key w R M f g cnt) : R ≠ M := by
  obtain ⟨es, clk, seen, h1, h2, h3, h4⟩ := h
  rintro rfl
  rw [h1] at h3; simp at h3
omit [DecidableEq κ] in
theorem IterAt.lt {w : World} {R M : Nat} {f g : κ → Option Value} {cnt : Nat} (h : IterAt key w R M f g cnt) : R < w.heap.size := by
  obtain ⟨es, clk, seen, h1, h2, h3, h4⟩ := h; exact lt_of_heap h3

omit [DecidableEq κ] in
theorem run_range {T E : TypeId} (hT : P.underlying T = some (.map K E)) {w : World} {M : Nat} {f : κ → Option Value} (h : MapAt key w M f) :
    ∃ o cnt, (Instr.range T (.map (some M))).run P w = .ok (.pointer (some ⟨w.heap.size, 0, none⟩)) (w.alloc o) ∧ IterAt key (w.alloc o) w.heap.size M f (fun _ => none) cnt := by
  obtain ⟨es, clk, hM, hf⟩ := h
  refine ⟨.mapIter (some M) clk #[] clk, _, ?_, es, clk, #[], ?_, hf, ?_, by simp, rfl⟩
  · simp [Instr.range, run_underlying hT, MapKept.run_getObj_map hM]
  · rw [heap_alloc, if_neg (Nat.ne_of_lt (lt_of_heap hM))]; exact hM
  · exact heap_alloc_new w _

theorem run_getObj_iter {w : World} {r : Nat} {m : Option Nat} {s c : Nat} {seen : Array Nat} (hb : w.heap[r]? = some (.mapIter m s seen c)) : (getObj r).run P w = .ok (.mapIter m s seen c) w := by
  simp [getObj, Sem.run, hb]
theorem run_setObj_iter {w : World} {r : Nat} {m : Option Nat} {s c : Nat} {seen : Array Nat} (o : Obj) (hb : w.heap[r]? = some (.mapIter m s seen c)) : (setObj r o).run P w = .ok () (putObj w r o) := by
  simp [setObj, Sem.run, hb, putObj]

theorem heap_drawn (w : World) (n : Nat) (k : Nat) : ({ w with drawn := n } : World).heap[k]? = w.heap[k]? := rfl

theorem filter_length_lt {α : Type} (p q : α → Bool) (l : List α) (himp : ∀ x ∈ l, q x = true → p x = true) {y : α} (hy : y ∈ l) (hp : p y = true) (hq : q y = false) : (l.filter q).length < (l.filter p).length := by
  induction l with
  | nil => cases hy
  | cons x l ih =>
    rcases List.mem_cons.1 hy with rfl | hy'
    · rw [List.filter_cons_of_pos hp, List.filter_cons_of_neg (by simp [hq]), List.length_cons]
      have : ∀ l : List α, (∀ x ∈ l, q x = true → p x = true) → (l.filter q).length ≤ (l.filter p).length := by
        intro l
        induction l with
        | nil => simp
        | cons z l ih2 =>
          intro hz
          have ih3 := ih2 (fun x hx => hz x (by simp [hx]))
          by_cases hqz : q z = true
          · rw [List.filter_cons_of_pos hqz, List.filter_cons_of_pos (hz z (by simp) hqz)]; simp; exact ih3
          · rw [List.filter_cons_of_neg hqz]
            by_cases hpz : p z = true
            · rw [List.filter_cons_of_pos hpz]; simp; omega
            · rw [List.filter_cons_of_neg hpz]; exact ih3
      have := this l (fun x hx => himp x (by simp [hx]))
      omega
    · have ih3 := ih (fun x hx => himp x (by simp [hx])) hy'
      by_cases hqz : q x = true
      · rw [List.filter_cons_of_pos hqz, List.filter_cons_of_pos (himp x (by simp) hqz)]; simp; exact ih3
      · rw [List.filter_cons_of_neg hqz]
        by_cases hpz : p x = true
        · rw [List.filter_cons_of_pos hpz]; simp; omega
        · rw [List.filter_cons_of_neg hpz]; exact ih3

theorem stamp_uniq {es : List MapEntry} (h : (es.map (·.born)).Nodup) {x e : MapEntry} (hx : x ∈ es) (he : e ∈ es) (hxe : x.born = e.born) : x = e := by
  obtain ⟨i1, g1⟩ := List.mem_iff_getElem?.1 hx
  obtain ⟨i2, g2⟩ := List.mem_iff_getElem?.1 he
  have e1 : (es.map (·.born))[i1]? = some x.born := by rw [List.getElem?_map, g1]; rfl
  have e2 : (es.map (·.born))[i2]? = some x.born := by rw [List.getElem?_map, g2, hxe]; rfl
  obtain ⟨l1, _⟩ := List.getElem?_eq_some_iff.1 e1
  have : i1 = i2 := (List.getElem?_inj l1 h).1 (e1.trans e2.symm)
  subst this
  rw [g1] at g2; simpa using g2

/-- One step: all has come, or one that had not yet. -/
theorem run_next {w : World} {R M : Nat} {f g : κ → Option Value} {cnt : Nat} (hinj : ∀ a b, key a = key b → a = b) (h : IterAt key w R M f g cnt) (ty : TypeId) :
    ((Instr.next (.pointer (some ⟨R, 0, none⟩)) false ty).run P w = .ok (.tuple #[.bool false]) w ∧ g = f) ∨
    ∃ k v w', (Instr.next (.pointer (some ⟨R, 0, none⟩)) false ty).run P w = .ok (.tuple #[.bool true, key k, v]) w' ∧ f k = some v ∧ g k = none ∧
      Tch [R] w w' ∧ (Instr.entry (.pointer (some ⟨R, 0, none⟩))).run P w' = .ok (.tuple #[key k, v]) w' ∧ ∃ cnt', cnt' < cnt ∧ IterAt key w' R M f (upd g k v) cnt' := by
  obtain ⟨es, clk, seen, hM, hf, hR, hg, hcnt⟩ := h
  have hRM : R ≠ M := by rintro rfl; rw [hM] at hR; simp at hR
  have hguard : (!seen.isEmpty && !es.isEmpty && es.all (·.born ≥ clk)) = false := by
    by_cases he : es.isEmpty = true
    · simp [he]
    · have hall : es.all (·.born ≥ clk) = false := by
        rw [Array.all_eq_false]
        have hpos : 0 < es.size := by
          rcases Nat.eq_zero_or_pos es.size with h0 | h0
          · exact absurd (by simpa using h0) he
          · exact h0
        exact ⟨0, hpos, by have := hf.clock es[0] (by simp); simp; omega⟩
      simp [hall]
  have hnew : ((es.filter fun e => !seen.contains e.born).filter fun e => decide (e.born ≥ clk)) = #[] := by
    apply Array.filter_eq_empty_iff.2
    intro e he
    have := hf.clock e (by have := (Array.mem_filter.1 he).1; simpa using this)
    simp; omega
  have hold : ((es.filter fun e => !seen.contains e.born).filter fun e => decide (e.born < clk)) = es.filter fun e => !seen.contains e.born := by
    apply Array.filter_eq_self.2
    intro e he
    have := hf.clock e (by have := (Array.mem_filter.1 he).1; simpa using this)
    simp; omega
  by_cases hleft : (es.filter fun e => !seen.contains e.born) = #[]
  · left
    refine ⟨?_, ?_⟩
    · rw [hleft] at hold hnew
      simp only [Instr.next, Sem.run_bind, run_getObj_iter hR, Result.andThen_ok, MapKept.run_getObj_map hM, hguard, Bool.false_eq_true, if_false, hleft, hold, hnew]
      simp [Question.forced]
    · funext k
      cases hfk : f k with
      | none =>
        cases hgk : g k with
        | none => rfl
        | some v =>
          obtain ⟨e, he, _, h1, h2⟩ := (hg k v).1 hgk
          have := (hf.reads k v).2 ⟨e, he, h1, h2⟩
          rw [hfk] at this; cases this
      | some v =>
        obtain ⟨e, he, h1, h2⟩ := (hf.reads k v).1 hfk
        refine (hg k v).2 ⟨e, he, ?_, h1, h2⟩
        have := Array.filter_eq_empty_iff.1 hleft e (by simpa using he)
        simpa using this
  · right
    have hpos : 0 < (es.filter fun e => !seen.contains e.born).size := by
      rcases Nat.eq_zero_or_pos (es.filter fun e => !seen.contains e.born).size with h0 | h0
      · exact absurd (by simpa using h0) hleft
      · exact h0
    have hne : (es.filter fun e => !seen.contains e.born).isEmpty = false := by
      rw [Bool.eq_false_iff]; intro h0; exact hleft (by simpa using h0)
    -- whichever the tape names
    have step : ∀ (j : Nat) (w0 : World), j < (es.filter fun e => !seen.contains e.born).size → w0.heap = w.heap → Tch [] w w0 →
        ∃ e k v, (es.filter fun e => !seen.contains e.born)[j]? = some e ∧ e.key = key k ∧ e.val = v ∧ f k = some v ∧ g k = none ∧
          Tch [R] w (putObj w0 R (.mapIter (some M) clk (seen.push e.born) clk)) ∧
          (Instr.entry (.pointer (some ⟨R, 0, none⟩))).run P (putObj w0 R (.mapIter (some M) clk (seen.push e.born) clk)) = .ok (.tuple #[key k, v]) (putObj w0 R (.mapIter (some M) clk (seen.push e.born) clk)) ∧
          ∃ cnt', cnt' < cnt ∧ IterAt key (putObj w0 R (.mapIter (some M) clk (seen.push e.born) clk)) R M f (upd g k v) cnt' := by
      intro j w0 hj hw0 ht0
      have hmem : (es.filter fun e => !seen.contains e.born)[j] ∈ (es.filter fun e => !seen.contains e.born) := Array.getElem_mem hj
      obtain ⟨he, hns⟩ := Array.mem_filter.1 hmem
      generalize hE : (es.filter fun e => !seen.contains e.born)[j] = e at *
      have he' : e ∈ es.toList := by simpa using he
      have hns' : e.born ∉ seen := by simpa using hns
      obtain ⟨k, hk⟩ := hf.keys e he'
      have hfk : f k = some e.val := (hf.reads k e.val).2 ⟨e, he', hk, rfl⟩
      have uniq : ∀ x ∈ es.toList, x.key = key k → x = e := by
        intro x hx hxk
        obtain ⟨i1, h1⟩ := List.mem_iff_getElem?.1 hx
        obtain ⟨i2, h2⟩ := List.mem_iff_getElem?.1 he'
        have := pairwise_key_eq hf.apart h1 h2 (hxk.trans hk.symm)
        subst this
        rw [h1] at h2; simpa using h2
      have hgk : g k = none := by
        cases hgk : g k with
        | none => rfl
        | some v =>
          obtain ⟨x, hx, hxs, hxk, _⟩ := (hg k v).1 hgk
          rw [uniq x hx hxk] at hxs
          exact absurd hxs hns'
      have hRlt : R < w0.heap.size := by rw [hw0]; exact lt_of_heap hR
      refine ⟨e, k, e.val, by rw [← hE]; simp, hk, rfl, hfk, hgk, (ht0.mono (by simp)).putObj (by simp) _, ?_, ?_⟩
      · have hR1 := heap_putObj_same w0 R (.mapIter (some M) clk (seen.push e.born) clk) hRlt
        have hM1 : (putObj w0 R (.mapIter (some M) clk (seen.push e.born) clk)).heap[M]? = some (.map es clk) := by
          rw [heap_putObj_other w0 R _ M (Ne.symm hRM), hw0]; exact hM
        have hfind : es.find? (·.born == e.born) = some e := by
          cases hfi : es.find? (·.born == e.born) with
          | none => exact absurd (Array.find?_eq_none.1 hfi e he) (by simp)
          | some x =>
            have hxb : x.born = e.born := by simpa using Array.find?_some hfi
            have hxm : x ∈ es.toList := by simpa using Array.mem_of_find?_eq_some hfi
            rw [stamp_uniq hf.stamps hxm he' hxb]
        simp only [Instr.entry, Sem.run_bind, run_getObj_iter hR1, Result.andThen_ok, Array.back?_push, MapKept.run_getObj_map hM1, bne_self_eq_false, Bool.false_eq_true, if_false, hfind, hk, Sem.run_pure]
      refine ⟨(es.toList.filter fun e' => !(seen.push e.born).contains e'.born).length, ?_, es, clk, seen.push e.born, ?_, hf, heap_putObj_same w0 R _ hRlt, ?_, rfl⟩
      · rw [hcnt]
        refine filter_length_lt _ _ _ ?_ he' (by simpa using hns') (by simp)
        intro x _ hx
        simp only [Array.contains_push, Bool.not_or, Bool.and_eq_true] at hx
        exact hx.1
      · rw [heap_putObj_other w0 R _ M (Ne.symm hRM), hw0]; exact hM
      · intro k' v'
        unfold upd
        by_cases ek : k' = k
        · subst ek
          simp only [if_true, Option.some.injEq]
          constructor
          · rintro rfl; exact ⟨e, he', by simp, hk, rfl⟩
          · rintro ⟨x, hx, _, hxk, rfl⟩; rw [uniq x hx hxk]
        · rw [if_neg ek, hg]
          constructor
          · rintro ⟨x, hx, h1, h2, h3⟩; exact ⟨x, hx, by simp [h1], h2, h3⟩
          · rintro ⟨x, hx, h1, h2, h3⟩
            refine ⟨x, hx, ?_, h2, h3⟩
            rcases Array.mem_push.1 h1 with h1 | h1
            · exact h1
            · exfalso
              have hxe : x = e := stamp_uniq hf.stamps hx he' h1
              subst hxe
              exact ek (hinj _ _ (h2.symm.trans hk))
    by_cases h1 : (es.filter fun e => !seen.contains e.born).size ≤ 1
    · obtain ⟨e, k, v, hj, hk, hv, hfk, hgk, ht, hen, hit⟩ := step 0 w hpos rfl (Tch.refl _ _)
      refine ⟨k, v, _, ?_, hfk, hgk, ht, hen, hit⟩
      simp only [Instr.next, Sem.run_bind, run_getObj_iter hR, Result.andThen_ok, MapKept.run_getObj_map hM, hguard, Bool.false_eq_true, if_false, hold, hnew, hne, Array.empty_append, Array.append_empty, Array.size_map, run_choose, Question.forced, decide_eq_true h1, if_true, Array.getElem?_map, hj, Option.map_some, run_setObj_iter _ hR, Sem.run_pure, hk, hv]
    · have hlt : (Question.mapNext (es.filter fun e => !seen.contains e.born).size).cut (w.tape w.drawn (.mapNext (es.filter fun e => !seen.contains e.born).size)) < (es.filter fun e => !seen.contains e.born).size := by
        simp only [Question.cut]; exact Nat.mod_lt _ hpos
      obtain ⟨e, k, v, hj, hk, hv, hfk, hgk, ht, hen, hit⟩ := step _ w.drew hlt rfl (Tch.refl _ _).drew
      refine ⟨k, v, _, ?_, hfk, hgk, ht, hen, hit⟩
      have hR' : w.drew.heap[R]? = some (.mapIter (some M) clk seen clk) := hR
      simp only [Instr.next, Sem.run_bind, run_getObj_iter hR, Result.andThen_ok, MapKept.run_getObj_map hM, hguard, Bool.false_eq_true, if_false, hold, hnew, hne, Array.empty_append, Array.append_empty, Array.size_map, run_choose, Question.forced, decide_eq_false h1, World.drew_eq, Array.getElem?_map, hj, Option.map_some, run_setObj_iter _ hR', Sem.run_pure, hk, hv]

section ops
variable {ops : Array Oper} {rest : List Oper} {o : Oper} {a : Act} {w : World} {Q : Exit → Act → World → Prop} {T E : TypeId} {m k x : Operand} {M R : Nat} {f g : κ → Option Value} {dst : Option Tmp} {ty : TypeId} {pos : String} {af : Array Edge}
theorem wc_mapUpdate (hK : KeyT P K key) (hT : P.underlying T = some (.map K E)) (h : MapAt key w M f) {kk : κ} {v : Value} (hm : a.eval m = .map (some M)) (hk : a.eval k = key kk) (hx : a.eval x = v)
    (h' : ∀ w', Tch [M] w w' → MapAt key w' M (upd f kk v) → wpList P ops Q rest (a.put dst undef) w') : wpList P ops Q (⟨dst, .mapUpdate T m k x, ty, pos, af, none⟩ :: rest) a w := by
  obtain ⟨ob, hr, hm'⟩ := run_mapUpdate hK hT h kk v
  refine wc_done rfl (w' := putObj w M ob) ?_ (h' _ ((Tch.refl _ _).putObj (by simp) _) hm')
  unfold execOp
  simp [hm, hk, hx, hr]
theorem exec_lookup (ho : o.op = .lookup T m k true) (hK : KeyT P K key) (hT : P.underlying T = some (.map K E)) {z : Value} (hz : (zeroValue E).run P w = .ok z w) (hm : a.eval m = .map (some M)) {kk : κ} (hk : a.eval k = key kk)
    (h : MapAt key w M f) : (execOp a.eval o).run P w = .ok (.value (.tuple #[(f kk).getD z, .bool (f kk).isSome])) w := by
  have hr := run_lookup hK hT hz h kk true
  unfold execOp
  simp [ho, hm, hk, hr]
theorem exec_lookup1 (ho : o.op = .lookup T m k false) (hK : KeyT P K key) (hT : P.underlying T = some (.map K E)) {z : Value} (hz : (zeroValue E).run P w = .ok z w) (hm : a.eval m = .map (some M)) {kk : κ} (hk : a.eval k = key kk)
    (h : MapAt key w M f) : (execOp a.eval o).run P w = .ok (.value ((f kk).getD z)) w := by
  have hr := run_lookup hK hT hz h kk false
  unfold execOp
  simp [ho, hm, hk, hr]
omit [DecidableEq κ] in
theorem wc_clear {d : TypeDesc} (hT : P.underlying T = some d) (h : MapAt key w M f) {as : Array Operand} {ts : Array TypeId} (has : as = #[m]) (hts : ts = #[T]) (hm : a.eval m = .map (some M)) (h' : ∀ w', Tch [M] w w' → MapAt key w' M (fun _ => none) → wpList P ops Q rest (a.put dst (.tuple #[])) w') :
    wpList P ops Q (⟨dst, .call { callee := .builtin .clear, args := as, argTypes := ts }, ty, pos, af, none⟩ :: rest) a w := by
  subst has hts
  obtain ⟨ob, hr, hm'⟩ := run_clear (P := P) hT h (ty := ty)
  refine wc_value rfl (w' := putObj w M ob) ?_ (h' _ ((Tch.refl _ _).putObj (by simp) _) hm')
  unfold execOp
  simp [resolve, invoke, builtin, hm, hr]
omit [DecidableEq κ] in
theorem wc_range (hT : P.underlying T = some (.map K E)) (h : MapAt key w M f) (hm : a.eval m = .map (some M))
    (h' : ∀ w' cnt, Tch [] w w' → w'.heap.size = w.heap.size + 1 → IterAt key w' w.heap.size M f (fun _ => none) cnt → wpList P ops Q rest (a.put dst (.pointer (some ⟨w.heap.size, 0, none⟩))) w') :
    wpList P ops Q (⟨dst, .range T m, ty, pos, af, none⟩ :: rest) a w := by
  obtain ⟨ob, cnt, hr, hi⟩ := run_range (P := P) hT h
  refine wc_value rfl (w' := w.alloc ob) ?_ (h' _ cnt ((Tch.refl _ _).alloc _) (by simp) hi)
  unfold execOp
  simp [hm, hr]
theorem wc_next (hinj : ∀ a b, key a = key b → a = b) {cnt : Nat} (h : IterAt key w R M f g cnt) (hx : a.eval x = .pointer (some ⟨R, 0, none⟩))
    (h0 : g = f → wpList P ops Q rest (a.put dst (.tuple #[.bool false])) w)
    (h1 : ∀ kk v w' cnt', f kk = some v → g kk = none → Tch [R] w w' → (Instr.entry (.pointer (some ⟨R, 0, none⟩))).run P w' = .ok (.tuple #[key kk, v]) w' → cnt' < cnt → IterAt key w' R M f (upd g kk v) cnt' →
      wpList P ops Q rest (a.put dst (.tuple #[.bool true, key kk, v])) w') : wpList P ops Q (⟨dst, .next x false, ty, pos, af, none⟩ :: rest) a w := by
  rcases run_next (P := P) hinj h ty with ⟨hr, hgf⟩ | ⟨kk, v, w', hr, hf, hg, ht, hen, cnt', hlt, hi⟩
  · refine wc_value rfl (w' := w) ?_ (h0 hgf)
    unfold execOp
    simp [hx, hr]
  · refine wc_value rfl (w' := w') ?_ (h1 kk v w' cnt' hf hg ht hen hlt hi)
    unfold execOp
    simp [hx, hr]
theorem wc_entry {v : Value} (hr : (Instr.entry (.pointer (some ⟨R, 0, none⟩))).run P w = .ok v w) (hx : a.eval x = .pointer (some ⟨R, 0, none⟩)) (h : wpList P ops Q rest (a.put dst v) w) :
    wpList P ops Q (⟨dst, .entry x, ty, pos, af, none⟩ :: rest) a w := by
  refine wc_value rfl (w' := w) (v := v) ?_ h
  unfold execOp
  simp [hx, hr]
omit [DecidableEq κ] in
theorem wc_makeMap (key : κ → Value) (h' : MapAt key (w.alloc (.map #[] 0)) w.heap.size (fun _ => none) → wpList P ops Q rest (a.put dst (.map (some w.heap.size))) (w.alloc (.map #[] 0))) :
    wpList P ops Q (⟨dst, .makeMap T none, ty, pos, af, none⟩ :: rest) a w := by
  refine wc_value rfl (w' := w.alloc (.map #[] 0)) ?_ (h' (mapAt_new key w))
  unfold execOp
  simp [Instr.makeMap]
end ops
end
end Go.Cib
/-
  Small laws, for any program: arrays of bytes as lists of bytes; sectors.
-/
namespace Go.Cib
open Go Go.RowKit

def bv (b : UInt8) : Value := .int .u8 b.toNat
theorem bv_inj {a b : UInt8} (h : bv a = bv b) : a = b := by
  simp only [bv, Value.int.injEq, true_and] at h
  exact UInt8.toNat_inj.1 (by omega)
def bytesA (l : List UInt8) : Array Value := (l.map bv).toArray
@[simp] theorem size_bytesA (l : List UInt8) : (bytesA l).size = l.length := by simp [bytesA]
theorem bytesA_inj {a b : List UInt8} (h : bytesA a = bytesA b) : a = b := by
  have h' : a.map bv = b.map bv := by simpa [bytesA] using h
  exact (List.map_inj_right (fun _ _ => bv_inj)).1 h'
theorem bytesA_one (l : List UInt8) : ∀ v ∈ (bytesA l).toList, v.oneCell' = true := by
  intro v hv
  simp only [bytesA, List.mem_map] at hv
  obtain ⟨b, _, rfl⟩ := hv
  rfl
theorem bytesA_get (l : List UInt8) (i : Nat) : (bytesA l)[i]? = (l[i]?).map bv := by simp [bytesA]
theorem bytesA_set (l : List UInt8) (i : Nat) (b : UInt8) : (bytesA l).setIfInBounds i (bv b) = bytesA (l.set i b) := by
  simp [bytesA]
theorem bytesA_append (a b : List UInt8) : bytesA (a ++ b) = bytesA a ++ bytesA b := by simp [bytesA]
theorem bytesA_extract (l : List UInt8) (i j : Nat) : (bytesA l).extract i j = bytesA ((l.take j).drop i) := by
  apply Array.toList_inj.1
  simp only [bytesA, Array.toList_extract, List.extract_eq_take_drop]
  rw [← List.map_drop, ← List.map_take, List.drop_take]
theorem spl_bytesA (l : List UInt8) (off : Nat) (m : List UInt8) : spl (bytesA l) off (bytesA m) = bytesA (l.take off ++ m ++ l.drop (off + m.length)) := by
  simp [spl, bytesA]

/-- T is a type of arrays of n bytes. -/
structure BytesT (P : Program) (T : TypeId) (n : Nat) : Prop where
  und : ∃ E i, P.underlying T = some (.array n E) ∧ P.underlying E = some (.int .u8) ∧ P.info? E = some i ∧ i.size = 1
  info : ∃ i, P.info? T = some i ∧ i.size = n ∧ i.bytes = n ∧ i.zero = some (.agg (bytesA (List.replicate n 0)))
  plain : P.eqGuardType P.depth T = false

section
variable {P : Program} {T : TypeId} {n : Nat}
theorem BytesT.of {E : TypeId} (h1 : P.underlying T = some (.array n E)) (h2 : P.underlying E = some (.int .u8)) (h3 : (P.info? E).map (·.size) = some 1)
    (h4 : (P.info? T).map (fun i => (i.size, i.bytes, i.zero)) = some (n, n, some (.agg (bytesA (List.replicate n 0))))) (h5 : P.eqGuardType P.depth T = false) : BytesT P T n := by
  obtain ⟨i, hi, hi2⟩ := Option.map_eq_some_iff.1 h3
  obtain ⟨j, hj, hj2⟩ := Option.map_eq_some_iff.1 h4
  simp only [Prod.mk.injEq] at hj2
  exact ⟨⟨E, i, h1, h2, hi, hi2⟩, ⟨j, hj, hj2⟩, h5⟩
theorem BytesT.agg (h : BytesT P T n) : AggT P T n :=
  ⟨by obtain ⟨E, i, h1, _⟩ := h.und; exact ⟨_, h1, rfl⟩, by obtain ⟨i, h1, h2, _⟩ := h.info; exact ⟨i, h1, h2⟩⟩
theorem BytesT.zero (h : BytesT P T n) (w : World) : (zeroValue T).run P w = .ok (.agg (bytesA (List.replicate n 0))) w := by
  obtain ⟨i, h1, _, _, h2⟩ := h.info
  simp [zeroValue, typeInfo, h1, h2]

theorem run_part_byte {E : TypeId} {i : TypeInfo} (hE : P.underlying E = some (.int .u8)) (_hi : P.info? E = some i) (w : World) (l : List UInt8) (j : Nat) (b : UInt8) (hb : l[j]? = some b) :
    (part E (bytesA l) j).run P w = .ok (bv b) w := by
  have hagg : (isAgg E).run P w = .ok false w := by unfold isAgg; rw [Sem.run_bind, run_underlying hE w]; rfl
  unfold part
  rw [Sem.run_bind, hagg]
  simp [bytesA_get, hb]

theorem run_equalIn_byte {E : TypeId} (hE : P.underlying E = some (.int .u8)) (d : Nat) (w : World) (a b : UInt8) : (Op.equalIn (d + 1) E (bv a) (bv b)).run P w = .ok (decide (a = b)) w := by
  have := run_equalIn_int (P := P) w d E .u8 .u8 a.toNat b.toNat hE
  simp only [bv, this]
  congr 1
  by_cases h : a = b
  · simp [h]
  · have : ¬ ((a.toNat : Int) = b.toNat) := fun e => h (UInt8.toNat_inj.1 (by omega))
    simp [h, this]

theorem run_eqLoop {E : TypeId} {i : TypeInfo} (hE : P.underlying E = some (.int .u8)) (hi : P.info? E = some i) (hs : i.size = 1) (d : Nat) (w : World) (xs ys : List UInt8) : ∀ (m k : Nat), k + m = xs.length → xs.length = ys.length →
    Sem.run P (forIn (List.range' k m) (none, PUnit.unit) fun j (_ : Option Bool × PUnit) => do
        let a ← part E (bytesA xs) (j * i.size)
        let b ← part E (bytesA ys) (j * i.size)
        let r ← Op.equalIn (d + 1) E a b
        if (!r) = true then pure (.done (some false, PUnit.unit)) else pure (.yield (none, PUnit.unit))) w = .ok (if xs.drop k = ys.drop k then none else some false, PUnit.unit) w
  | 0, k, h1, h2 => by
    simp only [List.range'_zero, List.forIn_nil, Sem.run_pure]
    rw [List.drop_of_length_le (by omega), List.drop_of_length_le (by omega)]
    simp
  | m + 1, k, h1, h2 => by
    have hkx : k < xs.length := by omega
    have hky : k < ys.length := by omega
    have hx : xs[k]? = some xs[k] := by simp
    have hy : ys[k]? = some ys[k] := by simp
    have ih := run_eqLoop hE hi hs d w xs ys m (k + 1) (by omega) h2
    have e1 : xs.drop k = xs[k] :: xs.drop (k + 1) := by rw [List.drop_eq_getElem_cons (by omega)]
    have e2 : ys.drop k = ys[k] :: ys.drop (k + 1) := by rw [List.drop_eq_getElem_cons (by omega)]
    have hpx := run_part_byte hE hi w xs k _ hx
    have hpy := run_part_byte hE hi w ys k _ hy
    have he := run_equalIn_byte (P := P) hE d w xs[k] ys[k]
    simp only [List.range'_succ, List.forIn_cons, hs, Nat.mul_one, Sem.run_bind, Result.andThen_ok, hpx, hpy, he, Sem.run_ite] at ih ⊢
    rw [e1, e2]
    by_cases hc : xs[k] = ys[k]
    · simp only [hc, decide_true, Bool.not_true, Bool.false_eq_true, if_false, Sem.run_pure, Result.andThen_ok, List.cons.injEq, true_and]
      exact ih
    · simp only [hc, decide_false, Bool.not_false, if_true, Sem.run_pure, Result.andThen_ok, List.cons.injEq, false_and, if_false]

theorem run_equal_bytes (h : BytesT P T n) (w : World) (xs ys : List UInt8) (hx : xs.length = n) (hy : ys.length = n) :
    (Op.equal T (.agg (bytesA xs)) (.agg (bytesA ys))).run P w = .ok (decide (xs = ys)) w := by
  obtain ⟨E, i, h1, h2, h3, h4⟩ := h.und
  have hl := run_eqLoop (P := P) h2 h3 h4 9998 w xs ys n 0 (by omega) (by omega)
  simp only [List.drop_zero] at hl
  show (Op.equalIn (9999 + 1) T _ _).run P w = _
  unfold Op.equalIn
  simp only [Sem.run_bind, run_underlying h1, Result.andThen_ok, sizeOf, typeInfo, run_program, h3, Sem.run_pure, Std.Legacy.Range.forIn_eq_forIn_range', Std.Legacy.Range.size]
  simp only [Nat.sub_zero, Nat.add_sub_cancel, Nat.div_one, hl, Result.andThen_ok]
  by_cases hc : xs = ys <;> simp [hc]

theorem exec_eql_bytes {o : Oper} {a : Act} {w : World} (h : BytesT P T n) {x y : Operand} {yt : TypeId} (ho : o.op = .binOp .eql T x y yt) {xs ys : List UInt8} (hx : a.eval x = .agg (bytesA xs)) (hy : a.eval y = .agg (bytesA ys)) (lx : xs.length = n) (ly : ys.length = n) :
    (execOp a.eval o).run P w = .ok (.value (.bool (decide (xs = ys)))) w := by
  have he := run_equal_bytes h w xs ys lx ly
  unfold execOp
  simp [ho, hx, hy, eqGuard, h.plain, binOp, he]
theorem exec_neq_bytes {o : Oper} {a : Act} {w : World} (h : BytesT P T n) {x y : Operand} {yt : TypeId} (ho : o.op = .binOp .neq T x y yt) {xs ys : List UInt8} (hx : a.eval x = .agg (bytesA xs)) (hy : a.eval y = .agg (bytesA ys)) (lx : xs.length = n) (ly : ys.length = n) :
    (execOp a.eval o).run P w = .ok (.value (.bool (!decide (xs = ys)))) w := by
  have he := run_equal_bytes h w xs ys lx ly
  unfold execOp
  simp [ho, hx, hy, eqGuard, h.plain, binOp, he]
end

/-- An array of n bytes. -/
structure Arr (n : Nat) where
  l : List UInt8
  h : l.length = n
abbrev Sec := Arr 512
variable {n : Nat}
theorem Arr.ext' {a b : Arr n} (h : a.l = b.l) : a = b := by cases a; cases b; cases h; rfl
instance : DecidableEq (Arr n) := fun a b => if h : a.l = b.l then .isTrue (Arr.ext' h) else .isFalse (fun e => h (e ▸ rfl))
def secA (s : Arr n) : Array Value := bytesA s.l
@[simp] theorem size_secA (s : Arr n) : (secA s).size = n := by simp [secA, s.h]
theorem secA_inj {a b : Arr n} (h : secA a = secA b) : a = b := Arr.ext' (bytesA_inj h)
theorem secA_one (s : Arr n) : ∀ v ∈ (secA s).toList, v.oneCell' = true := bytesA_one s.l
def Arr.zero : Arr n := ⟨List.replicate n 0, List.length_replicate⟩
/-- An array that begins with a text's bytes. -/
def Arr.text (s : List UInt8) : Arr n := ⟨s.take n ++ List.replicate (n - s.length) 0, by rw [List.length_append, List.length_take, List.length_replicate]; omega⟩
def secsA (ls : List (Arr n)) : Array Value := rowsA (ls.map secA)
theorem secs_sizes (ls : List (Arr n)) : ∀ x ∈ ls.map secA, x.size = n := by
  intro x hx
  obtain ⟨s, _, rfl⟩ := List.mem_map.1 hx
  simp
@[simp] theorem size_secsA (ls : List (Arr n)) : (secsA ls).size = ls.length * n := by
  unfold secsA
  rw [size_rowsA (secs_sizes ls), List.length_map]
theorem secsA_extract {ls : List (Arr n)} {i : Nat} {s : Arr n} (h : ls[i]? = some s) : (secsA ls).extract (i * n) (i * n + n) = secA s :=
  rowsA_extract (secs_sizes ls) (by simp [h])
theorem secsA_spl {ls : List (Arr n)} {i : Nat} (h : i < ls.length) (s : Arr n) : spl (secsA ls) (i * n) (secA s) = secsA (ls.set i s) := by
  unfold secsA
  rw [rowsA_spl (secs_sizes ls) (by simpa using h) _ (by simp), List.map_set]
theorem secsA_one (ls : List (Arr n)) : ∀ v ∈ (secsA ls).toList, v.oneCell' = true := by
  intro v hv
  simp only [secsA, rowsA, List.mem_flatMap, List.mem_map] at hv
  obtain ⟨x, ⟨s, _, rfl⟩, hx⟩ := hv
  exact secA_one s v hx
theorem extract_all (s : Arr n) : (secA s).extract 0 (0 + n) = secA s := by
  have : (secA s).size = n := size_secA s
  have h2 := Array.extract_size (xs := secA s)
  rw [this] at h2
  rw [Nat.zero_add]
  exact h2
theorem spl_all (s t : Arr n) : spl (secA s) 0 (secA t) = secA t := by
  apply Array.toList_inj.1
  simp only [spl, List.take_zero, List.nil_append, size_secA, Nat.zero_add]
  rw [List.drop_of_length_le (by simp)]
  simp

section ops
variable {P : Program} {T : TypeId} {ops : Array Oper} {rest : List Oper} {a : Act} {w : World} {Q : Exit → Act → World → Prop} {dst : Option Tmp} {ty : TypeId} {pos : String} {af : Array Edge} {x y : Operand}
theorem mul_in {i m k : Nat} (h : i < m) : i * k + k ≤ m * k := by rw [← Nat.succ_mul]; exact Nat.mul_le_mul_right k h
theorem wc_alloc_arr (hT : BytesT P T n) (h : wpList P ops Q rest (a.put dst (.pointer (some ⟨w.heap.size, 0, none⟩))) (w.alloc (.cells (secA (Arr.zero : Arr n)) T))) :
    wpList P ops Q (⟨dst, .alloc T, ty, pos, af, none⟩ :: rest) a w := by
  obtain ⟨i, h1, _, _, h2⟩ := hT.info
  exact wc_value rfl (exec_alloc h1 h2 rfl) h
theorem wc_build_arr (hT : BytesT P T n) {ps : Array (Nat × Operand)} (hp : ps = #[]) (h : wpList P ops Q rest (a.put dst (.agg (secA (Arr.zero : Arr n)))) w) :
    wpList P ops Q (⟨dst, .build T ps, ty, pos, af, none⟩ :: rest) a w := by
  subst hp
  obtain ⟨i, h1, _, _, h2⟩ := hT.info
  obtain ⟨E, j, g1, _, g2, _⟩ := hT.und
  exact wc_value rfl (exec_build_zero h1 h2 g1 g2 rfl) h
/-- Stored into the variable that was made last. -/
theorem wc_store_new (hT : BytesT P T n) {s0 s : Arr n} {e : TypeId} (hx : a.eval x = .pointer (some ⟨w.heap.size, 0, none⟩)) (hy : a.eval y = .agg (secA s))
    (h : wpList P ops Q rest (a.put dst undef) (w.alloc (.cells (secA s) e))) : wpList P ops Q (⟨dst, .store T x y, ty, pos, af, none⟩ :: rest) a (w.alloc (.cells (secA s0) e)) := by
  refine wc_done rfl ?_ h
  rw [exec_store_agg hT.agg rfl hx hy (by simp) (secA_one s) (heap_alloc_new w _) (by simp), spl_all, setRow_alloc_new]
/-- Stored into a variable. -/
theorem wc_store_var (hT : BytesT P T n) {b : Nat} {s0 s : Arr n} {e : TypeId} (hb : w.heap[b]? = some (.cells (secA s0) e)) (hx : a.eval x = .pointer (some ⟨b, 0, none⟩)) (hy : a.eval y = .agg (secA s))
    (h : wpList P ops Q rest (a.put dst undef) (w.setRow b (secA s))) : wpList P ops Q (⟨dst, .store T x y, ty, pos, af, none⟩ :: rest) a w := by
  refine wc_done rfl ?_ h
  rw [exec_store_agg hT.agg rfl hx hy (by simp) (secA_one s) hb (by simp), spl_all]
theorem exec_load_var (hT : BytesT P T n) {b : Nat} {s : Arr n} {e : TypeId} {fr : Nat × Nat} {o : Oper} (ho : o.op = .load T x) (hb : w.heap[b]? = some (.cells (secA s) e fr)) (hx : a.eval x = .pointer (some ⟨b, 0, none⟩)) :
    (execOp a.eval o).run P w = .ok (.value (.agg (secA s))) w := by
  rw [exec_load_agg hT.agg ho hx hb (by simp), extract_all]
theorem wc_load_var (hT : BytesT P T n) {b : Nat} {s : Arr n} {e : TypeId} {fr : Nat × Nat} (hb : w.heap[b]? = some (.cells (secA s) e fr)) (hx : a.eval x = .pointer (some ⟨b, 0, none⟩))
    (h : wpList P ops Q rest (a.put dst (.agg (secA s))) w) : wpList P ops Q (⟨dst, .load T x, ty, pos, af, none⟩ :: rest) a w :=
  wc_value rfl (exec_load_var hT rfl hb hx) h
theorem wcg_load_var (hT : BytesT P T n) {b : Nat} {s : Arr n} {e : TypeId} {fr : Nat × Nat} {gd : Option (Nat × Bool)} (hb : w.heap[b]? = some (.cells (secA s) e fr)) (hw : Region.wanted ⟨dst, .load T x, ty, pos, af, gd⟩ (yielded ops a.tmps) = true) (hx : a.eval x = .pointer (some ⟨b, 0, none⟩))
    (h : wpList P ops Q rest (a.put dst (.agg (secA s))) w) : wpList P ops Q (⟨dst, .load T x, ty, pos, af, gd⟩ :: rest) a w :=
  wcg_value hw (exec_load_var hT rfl hb hx) h
theorem wc_load_new (hT : BytesT P T n) {s : Arr n} {e : TypeId} (hx : a.eval x = .pointer (some ⟨w.heap.size, 0, none⟩))
    (h : wpList P ops Q rest (a.put dst (.agg (secA s))) (w.alloc (.cells (secA s) e))) : wpList P ops Q (⟨dst, .load T x, ty, pos, af, none⟩ :: rest) a (w.alloc (.cells (secA s) e)) :=
  wc_value rfl (exec_load_var hT rfl (heap_alloc_new w _) hx) h
theorem ws_load_var {Qs : Act → Prop} (hT : BytesT P T n) {b : Nat} {s : Arr n} {e : TypeId} {fr : Nat × Nat} (hb : w.heap[b]? = some (.cells (secA s) e fr)) (hx : a.eval x = .pointer (some ⟨b, 0, none⟩))
    (h : wpStill P ops w Qs rest (a.put dst (.agg (secA s)))) : wpStill P ops w Qs (⟨dst, .load T x, ty, pos, af, none⟩ :: rest) a :=
  ws_value rfl (exec_load_var hT rfl hb hx) h
/-- One of a row. -/
theorem exec_load_row (hT : BytesT P T n) {b i : Nat} {ls : List (Arr n)} {s : Arr n} {e : TypeId} {fr : Nat × Nat} {o : Oper} (ho : o.op = .load T x) (hb : w.heap[b]? = some (.cells (secsA ls) e fr)) (hi : ls[i]? = some s) (hx : a.eval x = .pointer (some ⟨b, i * n, none⟩)) :
    (execOp a.eval o).run P w = .ok (.value (.agg (secA s))) w := by
  have hl := mul_in (k := n) (List.getElem?_eq_some_iff.1 hi).1
  rw [exec_load_agg hT.agg ho hx hb (by simp; omega), secsA_extract hi]
theorem wc_load_row (hT : BytesT P T n) {b i : Nat} {ls : List (Arr n)} {s : Arr n} {e : TypeId} {fr : Nat × Nat} (hb : w.heap[b]? = some (.cells (secsA ls) e fr)) (hi : ls[i]? = some s) (hx : a.eval x = .pointer (some ⟨b, i * n, none⟩))
    (h : wpList P ops Q rest (a.put dst (.agg (secA s))) w) : wpList P ops Q (⟨dst, .load T x, ty, pos, af, none⟩ :: rest) a w :=
  wc_value rfl (exec_load_row hT rfl hb hi hx) h
theorem ws_load_row {Qs : Act → Prop} (hT : BytesT P T n) {b i : Nat} {ls : List (Arr n)} {s : Arr n} {e : TypeId} {fr : Nat × Nat} (hb : w.heap[b]? = some (.cells (secsA ls) e fr)) (hi : ls[i]? = some s) (hx : a.eval x = .pointer (some ⟨b, i * n, none⟩))
    (h : wpStill P ops w Qs rest (a.put dst (.agg (secA s)))) : wpStill P ops w Qs (⟨dst, .load T x, ty, pos, af, none⟩ :: rest) a :=
  ws_value rfl (exec_load_row hT rfl hb hi hx) h
theorem wc_store_row (hT : BytesT P T n) {b i : Nat} {ls : List (Arr n)} {s : Arr n} {e : TypeId} (hb : w.heap[b]? = some (.cells (secsA ls) e)) (hi : i < ls.length) (hx : a.eval x = .pointer (some ⟨b, i * n, none⟩)) (hy : a.eval y = .agg (secA s))
    (h : wpList P ops Q rest (a.put dst undef) (w.setRow b (secsA (ls.set i s)))) : wpList P ops Q (⟨dst, .store T x y, ty, pos, af, none⟩ :: rest) a w := by
  have hl := mul_in (k := n) hi
  refine wc_done rfl ?_ h
  rw [exec_store_agg hT.agg rfl hx hy (by simp) (secA_one s) hb (by simp; omega), secsA_spl hi]
theorem decide_arr (s t : Arr n) : decide (s.l = t.l) = decide (s = t) := by
  by_cases h : s = t
  · simp [h]
  · have : ¬ s.l = t.l := fun e => h (Arr.ext' e)
    simp [h, this]
theorem wc_eql_arr (hT : BytesT P T n) {yt : TypeId} {s t : Arr n} (hx : a.eval x = .agg (secA s)) (hy : a.eval y = .agg (secA t))
    (h : wpList P ops Q rest (a.put dst (.bool (decide (s = t)))) w) : wpList P ops Q (⟨dst, .binOp .eql T x y yt, ty, pos, af, none⟩ :: rest) a w := by
  rw [← decide_arr] at h
  exact wc_value rfl (exec_eql_bytes hT rfl hx hy s.h t.h) h
theorem wcg_eql_arr (hT : BytesT P T n) {yt : TypeId} {s t : Arr n} {gd : Option (Nat × Bool)} (hw : Region.wanted ⟨dst, .binOp .eql T x y yt, ty, pos, af, gd⟩ (yielded ops a.tmps) = true) (hx : a.eval x = .agg (secA s)) (hy : a.eval y = .agg (secA t))
    (h : wpList P ops Q rest (a.put dst (.bool (decide (s = t)))) w) : wpList P ops Q (⟨dst, .binOp .eql T x y yt, ty, pos, af, gd⟩ :: rest) a w := by
  rw [← decide_arr] at h
  exact wcg_value hw (exec_eql_bytes hT rfl hx hy s.h t.h) h
theorem wcg_neq_arr (hT : BytesT P T n) {yt : TypeId} {s t : Arr n} {gd : Option (Nat × Bool)} (hw : Region.wanted ⟨dst, .binOp .neq T x y yt, ty, pos, af, gd⟩ (yielded ops a.tmps) = true) (hx : a.eval x = .agg (secA s)) (hy : a.eval y = .agg (secA t))
    (h : wpList P ops Q rest (a.put dst (.bool (!decide (s = t)))) w) : wpList P ops Q (⟨dst, .binOp .neq T x y yt, ty, pos, af, gd⟩ :: rest) a w := by
  rw [← decide_arr] at h
  exact wcg_value hw (exec_neq_bytes hT rfl hx hy s.h t.h) h
theorem wc_neq_arr (hT : BytesT P T n) {yt : TypeId} {s t : Arr n} (hx : a.eval x = .agg (secA s)) (hy : a.eval y = .agg (secA t))
    (h : wpList P ops Q rest (a.put dst (.bool (!decide (s = t)))) w) : wpList P ops Q (⟨dst, .binOp .neq T x y yt, ty, pos, af, none⟩ :: rest) a w := by
  rw [← decide_arr] at h
  exact wc_value rfl (exec_neq_bytes hT rfl hx hy s.h t.h) h
end ops
end Go.Cib
