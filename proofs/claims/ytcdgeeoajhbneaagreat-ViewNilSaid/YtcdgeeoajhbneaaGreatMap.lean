/-
  Small laws, for any program: maps whose keys are plain (numbers, texts), as functions from keys to values; ranging over one.
-/
import Derived.Test.YtcdgeeoajhbneaaGreatBase
import Derived.MapKept
import GoSem.Instr.Next
import GoSem.Instr.Entry
import GoSem.Instr.Range
import GoSem.Builtin.Clear
import GoSem.Builtin.Delete
namespace Go.Cib
open Go Go.RowKit

/-- Values of type K that are keys, told by κ. -/
structure KeyT (P : Program) (K : TypeId) {κ : Type} [DecidableEq κ] (key : κ → Value) : Prop where
  check : ∀ (e : Bool) (k : κ) (w : World), (Instr.checkKey e 10000 K (key k)).run P w = .ok () w
  same : ∃ d, P.underlying K = some d ∧ ∀ a b, Instr.sameNow d (key a) (key b) = some (decide (a = b))
  bits : ∀ k, Instr.sameBits 10000 (key k) (key k) = true
  inj : ∀ a b, key a = key b → a = b

def kInt (n : Int) : Value := .int .i64 n
theorem keyT_int {P : Program} {K : TypeId} (h : P.underlying K = some (.int .i64)) : KeyT P K kInt where
  check e k w := by
    have hs : ∀ n, (Instr.checkKey e (n + 1) K (kInt k)).run P w = .ok () w := fun n => by
      unfold Instr.checkKey
      rw [Sem.run_bind, run_underlying h w]
      rfl
    exact hs 9999
  same := ⟨_, h, fun a b => by simp [Instr.sameNow, kInt]; rfl⟩
  bits k := by
    have hs : ∀ n, Instr.sameBits n (kInt k) (kInt k) = true := fun n => by unfold Instr.sameBits kInt; simp
    exact hs 10000
  inj a b h := by simpa [kInt] using h

/-- The entries es read as the function f. -/
structure MapIs {κ : Type} (key : κ → Value) (es : List MapEntry) (clk : Nat) (f : κ → Option Value) : Prop where
  keys : ∀ e ∈ es, ∃ k, e.key = key k
  apart : es.Pairwise fun x y => x.key ≠ y.key
  stamps : (es.map (·.born)).Nodup
  clock : ∀ e ∈ es, e.born < clk
  reads : ∀ k v, f k = some v ↔ ∃ e ∈ es, e.key = key k ∧ e.val = v

section
variable {κ : Type} [DecidableEq κ] {P : Program} {K : TypeId} {key : κ → Value} {clk : Nat}

omit [DecidableEq κ] in
theorem mapIs_nil (key : κ → Value) (clk : Nat) : MapIs key [] clk (fun _ => none) := ⟨by simp, by simp, by simp, by simp, by simp⟩

/-- Where a key lies among the entries. -/
theorem findNow_spec (hK : KeyT P K key) {d : TypeDesc} (hd : P.underlying K = some d) (k : κ) : ∀ (es : List MapEntry) (n : Nat), (∀ e ∈ es, ∃ k, e.key = key k) →
    (Instr.findNow d (key k) es n = some none ∧ ∀ e ∈ es, e.key ≠ key k) ∨
    ∃ i e, Instr.findNow d (key k) es n = some (some (n + i, e.val)) ∧ es[i]? = some e ∧ e.key = key k := by
  obtain ⟨d', hd', hs⟩ := hK.same
  have hdd : d' = d := by rw [hd'] at hd; simpa using hd
  subst hdd
  intro es
  induction es with
  | nil => intro n _; left; simp [Instr.findNow]
  | cons e es ih =>
    intro n hkeys
    obtain ⟨k', hk'⟩ := hkeys e (by simp)
    by_cases hkk : k = k'
    · subst hkk
      right
      refine ⟨0, e, ?_, by simp, hk'⟩
      simp [Instr.findNow, hk', hs]
    · have hne : e.key ≠ key k := fun h => hkk (hK.inj _ _ (by rw [← hk', h]))
      rcases ih (n + 1) (fun x hx => hkeys x (by simp [hx])) with ⟨h1, h2⟩ | ⟨i, e', h1, h2, h3⟩
      · left
        refine ⟨by simp [Instr.findNow, hk', hs, hkk, h1], ?_⟩
        intro x hx
        rcases List.mem_cons.1 hx with rfl | hx
        · exact hne
        · exact h2 x hx
      · right
        refine ⟨i + 1, e', ?_, by simpa using h2, h3⟩
        have : n + (i + 1) = n + 1 + i := by omega
        simp [Instr.findNow, hk', hs, hkk, h1, this]

omit [DecidableEq κ] in
theorem MapIs.some_of {es : List MapEntry} {f : κ → Option Value} (h : MapIs key es clk f) {i : Nat} {e : MapEntry} (hi : es[i]? = some e) {k : κ} (hk : e.key = key k) : f k = some e.val :=
  (h.reads k e.val).2 ⟨e, List.mem_of_getElem? hi, hk, rfl⟩
omit [DecidableEq κ] in
theorem MapIs.none_of {es : List MapEntry} {f : κ → Option Value} (h : MapIs key es clk f) {k : κ} (hk : ∀ e ∈ es, e.key ≠ key k) : f k = none := by
  cases hf : f k with
  | none => rfl
  | some v => obtain ⟨e, he, hek, _⟩ := (h.reads k v).1 hf; exact absurd hek (hk e he)

theorem pairwise_key_eq {es : List MapEntry} (h : es.Pairwise fun x y => x.key ≠ y.key) : ∀ {i j : Nat} {a b : MapEntry}, es[i]? = some a → es[j]? = some b → a.key = b.key → i = j := by
  intro i j a b ha hb hab
  obtain ⟨hi, rfl⟩ := List.getElem?_eq_some_iff.1 ha
  obtain ⟨hj, rfl⟩ := List.getElem?_eq_some_iff.1 hb
  have hp := List.pairwise_iff_getElem.1 h
  rcases Nat.lt_trichotomy i j with hl | hl | hl
  · exact absurd hab (hp i j hi hj hl)
  · exact hl
  · exact absurd hab.symm (hp j i hj hi hl)

/-- The map with one key laid. -/
def upd (f : κ → Option Value) (k : κ) (v : Value) : κ → Option Value := fun j => if j = k then some v else f j

theorem MapIs.push (hinj : ∀ a b, key a = key b → a = b) {es : List MapEntry} {f : κ → Option Value} (h : MapIs key es clk f) {k : κ} (hk : ∀ e ∈ es, e.key ≠ key k) (v : Value) :
    MapIs key (es ++ [{ key := key k, val := v, born := clk }]) (clk + 1) (upd f k v) where
  keys e he := by
    rcases List.mem_append.1 he with he | he
    · exact h.keys e he
    · exact ⟨k, by simp at he; rw [he]⟩
  apart := by
    rw [List.pairwise_append]
    refine ⟨h.apart, by simp, fun a ha b hb => ?_⟩
    simp only [List.mem_singleton] at hb
    subst hb
    exact hk a ha
  stamps := by
    rw [List.map_append]
    refine List.nodup_append.2 ⟨h.stamps, by simp, ?_⟩
    intro a ha b hb
    obtain ⟨x, hx, rfl⟩ := List.mem_map.1 ha
    simp at hb
    subst hb
    exact Nat.ne_of_lt (h.clock x hx)
  clock e he := by
    rcases List.mem_append.1 he with he | he
    · have := h.clock e he; omega
    · simp at he; rw [he]; simp
  reads j u := by
    unfold upd
    by_cases e : j = k
    · subst e
      simp only [if_true, Option.some.injEq]
      constructor
      · rintro rfl; exact ⟨_, List.mem_append_right _ (List.mem_singleton.2 rfl), rfl, rfl⟩
      · rintro ⟨x, hx, hxk, rfl⟩
        rcases List.mem_append.1 hx with hx | hx
        · exact absurd hxk (hk x hx)
        · simp at hx; rw [hx]
    · rw [if_neg e, h.reads]
      constructor
      · rintro ⟨x, hx, h1, h2⟩; exact ⟨x, List.mem_append_left _ hx, h1, h2⟩
      · rintro ⟨x, hx, h1, h2⟩
        rcases List.mem_append.1 hx with hx | hx
        · exact ⟨x, hx, h1, h2⟩
        · simp at hx; subst hx; exact absurd (hinj _ _ h1).symm e

theorem MapIs.modify {es : List MapEntry} {f : κ → Option Value} (hinj : ∀ a b, key a = key b → a = b) (h : MapIs key es clk f) {k : κ} {i : Nat} {e : MapEntry} (hi : es[i]? = some e) (hk : e.key = key k) (v : Value) :
    MapIs key (es.modify i fun e => { e with key := key k, val := v }) clk (upd f k v) := by
  have hget : ∀ j, (es.modify i fun e => { e with key := key k, val := v })[j]? = (es[j]?).map fun x => if j = i then { x with key := key k, val := v } else x := by
    intro j
    rw [List.getElem?_modify]
    by_cases hij : i = j
    · simp [hij]
    · simp [hij, Ne.symm hij]
  have hkeys : (es.modify i fun e => { e with key := key k, val := v }).map (·.key) = es.map (·.key) := by
    apply List.ext_getElem?
    intro j
    rw [List.getElem?_map, hget, List.getElem?_map]
    cases hj : es[j]? with
    | none => simp
    | some x =>
      by_cases hij : j = i
      · subst hij; rw [hi] at hj; cases hj; simp [hk]
      · simp [hij]
  have hborn : (es.modify i fun e => { e with key := key k, val := v }).map (·.born) = es.map (·.born) := by
    apply List.ext_getElem?
    intro j
    rw [List.getElem?_map, hget, List.getElem?_map]
    cases es[j]? with
    | none => simp
    | some x => by_cases hij : j = i <;> simp [hij]
  have hmem : ∀ x, x ∈ (es.modify i fun e => { e with key := key k, val := v }) ↔ ∃ j y, es[j]? = some y ∧ x = (if j = i then { y with key := key k, val := v } else y) := by
    intro x
    rw [List.mem_iff_getElem?]
    constructor
    · rintro ⟨j, hj⟩
      rw [hget] at hj
      cases hy : es[j]? with
      | none => simp [hy] at hj
      | some y => simp [hy] at hj; exact ⟨j, y, hy, hj.symm⟩
    · rintro ⟨j, y, hy, rfl⟩
      exact ⟨j, by rw [hget, hy]; rfl⟩
  refine ⟨?_, ?_, ?_, ?_, ?_⟩
  · intro x hx
    obtain ⟨j, y, hy, rfl⟩ := (hmem x).1 hx
    by_cases hij : j = i
    · exact ⟨k, by simp [hij]⟩
    · simp only [hij, if_false]; exact h.keys y (List.mem_of_getElem? hy)
  · have h1 : (es.map (·.key)).Pairwise (· ≠ ·) := List.pairwise_map.2 h.apart
    rw [← hkeys] at h1
    exact List.pairwise_map.1 h1
  · rw [hborn]; exact h.stamps
  · intro x hx
    obtain ⟨j, y, hy, rfl⟩ := (hmem x).1 hx
    have := h.clock y (List.mem_of_getElem? hy)
    by_cases hij : j = i <;> simp [hij, this]
  · intro j u
    unfold upd
    by_cases ej : j = k
    · subst ej
      simp only [if_true, Option.some.injEq]
      constructor
      · rintro rfl
        exact ⟨_, (hmem _).2 ⟨i, e, hi, rfl⟩, by simp, by simp⟩
      · rintro ⟨x, hx, hxk, rfl⟩
        obtain ⟨m, y, hy, rfl⟩ := (hmem x).1 hx
        by_cases hmi : m = i
        · simp [hmi]
        · simp only [hmi, if_false] at hxk
          exact absurd (pairwise_key_eq h.apart hy hi (hxk.trans hk.symm)) hmi
    · rw [if_neg ej, h.reads]
      constructor
      · rintro ⟨x, hx, h1, h2⟩
        obtain ⟨m, hm⟩ := List.mem_iff_getElem?.1 hx
        have hmi : m ≠ i := fun hmi => by subst hmi; rw [hi] at hm; cases hm; exact ej (hinj _ _ (h1.symm.trans hk))
        exact ⟨x, (hmem x).2 ⟨m, x, hm, by simp [hmi]⟩, h1, h2⟩
      · rintro ⟨x, hx, h1, h2⟩
        obtain ⟨m, y, hy, rfl⟩ := (hmem x).1 hx
        by_cases hmi : m = i
        · simp only [hmi, if_true] at h1; exact absurd (hinj _ _ h1).symm ej
        · simp only [hmi, if_false] at h1 h2; exact ⟨y, List.mem_of_getElem? hy, h1, h2⟩

/-- Block M is a map that reads as f. -/
def MapAt (key : κ → Value) (w : World) (M : Nat) (f : κ → Option Value) : Prop :=
  ∃ es clk, w.heap[M]? = some (.map es clk) ∧ MapIs key es.toList clk f

omit [DecidableEq κ] in
theorem MapAt.lt {w : World} {M : Nat} {f : κ → Option Value} (h : MapAt key w M f) : M < w.heap.size := by
  obtain ⟨es, clk, hM, _⟩ := h; exact lt_of_heap hM
omit [DecidableEq κ] in
theorem MapAt.touch {w w' : World} {M : Nat} {S : List Nat} {f : κ → Option Value} (h : MapAt key w M f) (ht : Tch S w w') (hn : M ∉ S) : MapAt key w' M f := by
  obtain ⟨es, clk, hM, hf⟩ := h; exact ⟨es, clk, ht.heap hM hn, hf⟩
omit [DecidableEq κ] in
theorem MapAt.congr {w w' : World} {M : Nat} {f : κ → Option Value} (h : MapAt key w M f) (he : w'.heap[M]? = w.heap[M]?) : MapAt key w' M f := by
  obtain ⟨es, clk, hM, hf⟩ := h; exact ⟨es, clk, he.trans hM, hf⟩

theorem run_lookup {T E : TypeId} (hK : KeyT P K key) (hT : P.underlying T = some (.map K E)) {w : World} {z : Value} (hz : (zeroValue E).run P w = .ok z w) {M : Nat} {f : κ → Option Value} (h : MapAt key w M f) (k : κ) (ok : Bool) :
    (Instr.lookup T (.map (some M)) (key k) ok).run P w =
      .ok (if ok then .tuple #[(f k).getD z, .bool (f k).isSome] else (f k).getD z) w := by
  obtain ⟨es, clk, hM, hf⟩ := h
  obtain ⟨d, hd, _⟩ := hK.same
  rcases findNow_spec hK hd k es.toList 0 hf.keys with ⟨h1, h2⟩ | ⟨i, e, h1, h2, h3⟩
  · have hn := hf.none_of h2
    cases ok <;> simp [Instr.lookup, run_underlying hT, MapKept.run_getObj_map hM, hK.check, Instr.findKey, run_underlying hd, h1, hz, hn]
  · have hn := hf.some_of h2 h3
    cases ok <;> simp [Instr.lookup, run_underlying hT, MapKept.run_getObj_map hM, hK.check, Instr.findKey, run_underlying hd, h1, hn]

theorem run_setObj_map {w : World} {r : Nat} {es : Array MapEntry} {clock : Nat} (o : Obj) (hb : w.heap[r]? = some (.map es clock)) : (setObj r o).run P w = .ok () (putObj w r o) := MapKept.run_setObj_map o hb

theorem toList_modify' (a : Array MapEntry) (i : Nat) (f : MapEntry → MapEntry) : (a.modify i f).toList = a.toList.modify i f := by
  simp

theorem run_mapUpdate {T E : TypeId} (hK : KeyT P K key) (hT : P.underlying T = some (.map K E)) {w : World} {M : Nat} {f : κ → Option Value} (h : MapAt key w M f) (k : κ) (v : Value) :
    ∃ o, (Instr.mapUpdate T (.map (some M)) (key k) v).run P w = .ok () (putObj w M o) ∧ MapAt key (putObj w M o) M (upd f k v) := by
  obtain ⟨es, clk, hM, hf⟩ := h
  obtain ⟨d, hd, _⟩ := hK.same
  rcases findNow_spec hK hd k es.toList 0 hf.keys with ⟨h1, h2⟩ | ⟨i, e, h1, h2, h3⟩
  · refine ⟨.map (es.push { key := key k, val := v, born := clk }) (clk + 1), ?_, _, _, heap_putObj_same w M _ (lt_of_heap hM), ?_⟩
    · simp [Instr.mapUpdate, run_underlying hT, MapKept.run_getObj_map hM, hK.check, Instr.findKey, run_underlying hd, h1, run_setObj_map _ hM]
    · rw [Array.toList_push]; exact hf.push hK.inj h2 v
  · refine ⟨.map (es.modify i fun e => { e with key := key k, val := v }) clk, ?_, _, _, heap_putObj_same w M _ (lt_of_heap hM), ?_⟩
    · have he : es[i]? = some e := by simpa using h2
      simp [Instr.mapUpdate, run_underlying hT, MapKept.run_getObj_map hM, hK.check, Instr.findKey, run_underlying hd, h1, he, Instr.keyThatStays, h3, hK.bits, run_setObj_map _ hM]
    · rw [toList_modify']; exact hf.modify hK.inj h2 h3 v

omit [DecidableEq κ] in
theorem run_clear {T : TypeId} {d : TypeDesc} (hT : P.underlying T = some d) {w : World} {M : Nat} {f : κ → Option Value} (h : MapAt key w M f) {ty : TypeId} :
    ∃ o, (Builtin.clear_ #[T] ty #[.map (some M)]).run P w = .ok (.tuple #[]) (putObj w M o) ∧ MapAt key (putObj w M o) M (fun _ => none) := by
  obtain ⟨es, clk, hM, hf⟩ := h
  refine ⟨.map #[] clk, ?_, _, _, heap_putObj_same w M _ (lt_of_heap hM), mapIs_nil key clk⟩
  simp [Builtin.clear_, run_underlying hT, MapKept.run_getObj_map hM, run_setObj_map _ hM]

omit [DecidableEq κ] in
theorem mapAt_new (key : κ → Value) (w : World) : MapAt key (w.alloc (.map #[] 0)) w.heap.size (fun _ => none) :=
  ⟨#[], 0, heap_alloc_new w _, mapIs_nil key 0⟩

/-- R goes over the map M, which reads as f; what has come is g; cnt are still to come. -/
def IterAt (key : κ → Value) (w : World) (R M : Nat) (f g : κ → Option Value) (cnt : Nat) : Prop :=
  ∃ es clk seen, w.heap[M]? = some (.map es clk) ∧ MapIs key es.toList clk f ∧ w.heap[R]? = some (.mapIter (some M) clk seen clk) ∧
    (∀ k v, g k = some v ↔ ∃ e ∈ es.toList, e.born ∈ seen ∧ e.key = key k ∧ e.val = v) ∧ cnt = (es.toList.filter fun e => !seen.contains e.born).length

omit [DecidableEq κ] in
theorem IterAt.map {w : World} {R M : Nat} {f g : κ → Option Value} {cnt : Nat} (h : IterAt key w R M f g cnt) : MapAt key w M f := by
  obtain ⟨es, clk, seen, h1, h2, _⟩ := h; exact ⟨es, clk, h1, h2⟩
omit [DecidableEq κ] in
theorem IterAt.touch {w w' : World} {R M : Nat} {S : List Nat} {f g : κ → Option Value} {cnt : Nat} (h : IterAt key w R M f g cnt) (ht : Tch S w w') (hR : R ∉ S) (hM : M ∉ S) : IterAt key w' R M f g cnt := by
  obtain ⟨es, clk, seen, h1, h2, h3, h4⟩ := h; exact ⟨es, clk, seen, ht.heap h1 hM, h2, ht.heap h3 hR, h4⟩
omit [DecidableEq κ] in
theorem IterAt.ne {w : World} {R M : Nat} {f g : κ → Option Value} {cnt : Nat} (h : IterAt key w R M f g cnt) : R ≠ M := by
  obtain ⟨es, clk, seen, h1, h2, h3, h4⟩ := h
  rintro rfl
  rw [h1] at h3; simp at h3
omit [DecidableEq κ] in
theorem IterAt.lt {w : World} {R M : Nat} {f g : κ → Option Value} {cnt : Nat} (h : IterAt key w R M f g cnt) : R < w.heap.size := by
  obtain ⟨es, clk, seen, h1, h2, h3, h4⟩ := h; exact lt_of_heap h3

omit [DecidableEq κ] in
theorem run_range {T E : TypeId} (hT : P.underlying T = some (.map K E)) {w : World} {M : Nat} {f : κ → Option Value} (h : MapAt key w M f) :
    ∃ o cnt, (Instr.range T (.map (some M))).run P w = .ok (.pointer (some ⟨w.heap.size, 0, none⟩)) (w.alloc o) ∧ IterAt key (w.alloc o) w.heap.size M f (fun _ => none) cnt := by
  obtain ⟨es, clk, hM, hf⟩ := h
  refine ⟨.mapIter (some M) clk #[] clk, _, ?_, es, clk, #[], ?_, hf, ?_, by simp, rfl⟩
  · simp [Instr.range, run_underlying hT, MapKept.run_getObj_map hM]
  · rw [heap_alloc, if_neg (Nat.ne_of_lt (lt_of_heap hM))]; exact hM
  · exact heap_alloc_new w _

theorem run_getObj_iter {w : World} {r : Nat} {m : Option Nat} {s c : Nat} {seen : Array Nat} (hb : w.heap[r]? = some (.mapIter m s seen c)) : (getObj r).run P w = .ok (.mapIter m s seen c) w := by
  simp [getObj, Sem.run, hb]
theorem run_setObj_iter {w : World} {r : Nat} {m : Option Nat} {s c : Nat} {seen : Array Nat} (o : Obj) (hb : w.heap[r]? = some (.mapIter m s seen c)) : (setObj r o).run P w = .ok () (putObj w r o) := by
  simp [setObj, Sem.run, hb, putObj]

theorem heap_drawn (w : World) (n : Nat) (k : Nat) : ({ w with drawn := n } : World).heap[k]? = w.heap[k]? := rfl

theorem filter_length_lt {α : Type} (p q : α → Bool) (l : List α) (himp : ∀ x ∈ l, q x = true → p x = true) {y : α} (hy : y ∈ l) (hp : p y = true) (hq : q y = false) : (l.filter q).length < (l.filter p).length := by
  induction l with
  | nil => cases hy
  | cons x l ih =>
    rcases List.mem_cons.1 hy with rfl | hy'
    · rw [List.filter_cons_of_pos hp, List.filter_cons_of_neg (by simp [hq]), List.length_cons]
      have : ∀ l : List α, (∀ x ∈ l, q x = true → p x = true) → (l.filter q).length ≤ (l.filter p).length := by
        intro l
        induction l with
        | nil => simp
        | cons z l ih2 =>
          intro hz
          have ih3 := ih2 (fun x hx => hz x (by simp [hx]))
          by_cases hqz : q z = true
          · rw [List.filter_cons_of_pos hqz, List.filter_cons_of_pos (hz z (by simp) hqz)]; simp; exact ih3
          · rw [List.filter_cons_of_neg hqz]
            by_cases hpz : p z = true
            · rw [List.filter_cons_of_pos hpz]; simp; omega
            · rw [List.filter_cons_of_neg hpz]; exact ih3
      have := this l (fun x hx => himp x (by simp [hx]))
      omega
    · have ih3 := ih (fun x hx => himp x (by simp [hx])) hy'
      by_cases hqz : q x = true
      · rw [List.filter_cons_of_pos hqz, List.filter_cons_of_pos (himp x (by simp) hqz)]; simp; exact ih3
      · rw [List.filter_cons_of_neg hqz]
        by_cases hpz : p x = true
        · rw [List.filter_cons_of_pos hpz]; simp; omega
        · rw [List.filter_cons_of_neg hpz]; exact ih3

theorem stamp_uniq {es : List MapEntry} (h : (es.map (·.born)).Nodup) {x e : MapEntry} (hx : x ∈ es) (he : e ∈ es) (hxe : x.born = e.born) : x = e := by
  obtain ⟨i1, g1⟩ := List.mem_iff_getElem?.1 hx
  obtain ⟨i2, g2⟩ := List.mem_iff_getElem?.1 he
  have e1 : (es.map (·.born))[i1]? = some x.born := by rw [List.getElem?_map, g1]; rfl
  have e2 : (es.map (·.born))[i2]? = some x.born := by rw [List.getElem?_map, g2, hxe]; rfl
  obtain ⟨l1, _⟩ := List.getElem?_eq_some_iff.1 e1
  have : i1 = i2 := (List.getElem?_inj l1 h).1 (e1.trans e2.symm)
  subst this
  rw [g1] at g2; simpa using g2

/-- One step: all has come, or one that had not yet. -/
theorem run_next {w : World} {R M : Nat} {f g : κ → Option Value} {cnt : Nat} (hinj : ∀ a b, key a = key b → a = b) (h : IterAt key w R M f g cnt) (ty : TypeId) :
    ((Instr.next (.pointer (some ⟨R, 0, none⟩)) false ty).run P w = .ok (.tuple #[.bool false]) w ∧ g = f) ∨
    ∃ k v w', (Instr.next (.pointer (some ⟨R, 0, none⟩)) false ty).run P w = .ok (.tuple #[.bool true, key k, v]) w' ∧ f k = some v ∧ g k = none ∧
      Tch [R] w w' ∧ (Instr.entry (.pointer (some ⟨R, 0, none⟩))).run P w' = .ok (.tuple #[key k, v]) w' ∧ ∃ cnt', cnt' < cnt ∧ IterAt key w' R M f (upd g k v) cnt' := by
  obtain ⟨es, clk, seen, hM, hf, hR, hg, hcnt⟩ := h
  have hRM : R ≠ M := by rintro rfl; rw [hM] at hR; simp at hR
  have hguard : (!seen.isEmpty && !es.isEmpty && es.all (·.born ≥ clk)) = false := by
    by_cases he : es.isEmpty = true
    · simp [he]
    · have hall : es.all (·.born ≥ clk) = false := by
        rw [Array.all_eq_false]
        have hpos : 0 < es.size := by
          rcases Nat.eq_zero_or_pos es.size with h0 | h0
          · exact absurd (by simpa using h0) he
          · exact h0
        exact ⟨0, hpos, by have := hf.clock es[0] (by simp); simp; omega⟩
      simp [hall]
  have hnew : ((es.filter fun e => !seen.contains e.born).filter fun e => decide (e.born ≥ clk)) = #[] := by
    apply Array.filter_eq_empty_iff.2
    intro e he
    have := hf.clock e (by have := (Array.mem_filter.1 he).1; simpa using this)
    simp; omega
  have hold : ((es.filter fun e => !seen.contains e.born).filter fun e => decide (e.born < clk)) = es.filter fun e => !seen.contains e.born := by
    apply Array.filter_eq_self.2
    intro e he
    have := hf.clock e (by have := (Array.mem_filter.1 he).1; simpa using this)
    simp; omega
  by_cases hleft : (es.filter fun e => !seen.contains e.born) = #[]
  · left
    refine ⟨?_, ?_⟩
    · rw [hleft] at hold hnew
      simp only [Instr.next, Sem.run_bind, run_getObj_iter hR, Result.andThen_ok, MapKept.run_getObj_map hM, hguard, Bool.false_eq_true, if_false, hleft, hold, hnew]
      simp [Question.forced]
    · funext k
      cases hfk : f k with
      | none =>
        cases hgk : g k with
        | none => rfl
        | some v =>
          obtain ⟨e, he, _, h1, h2⟩ := (hg k v).1 hgk
          have := (hf.reads k v).2 ⟨e, he, h1, h2⟩
          rw [hfk] at this; cases this
      | some v =>
        obtain ⟨e, he, h1, h2⟩ := (hf.reads k v).1 hfk
        refine (hg k v).2 ⟨e, he, ?_, h1, h2⟩
        have := Array.filter_eq_empty_iff.1 hleft e (by simpa using he)
        simpa using this
  · right
    have hpos : 0 < (es.filter fun e => !seen.contains e.born).size := by
      rcases Nat.eq_zero_or_pos (es.filter fun e => !seen.contains e.born).size with h0 | h0
      · exact absurd (by simpa using h0) hleft
      · exact h0
    have hne : (es.filter fun e => !seen.contains e.born).isEmpty = false := by
      rw [Bool.eq_false_iff]; intro h0; exact hleft (by simpa using h0)
    -- whichever the tape names
    have step : ∀ (j : Nat) (w0 : World), j < (es.filter fun e => !seen.contains e.born).size → w0.heap = w.heap → Tch [] w w0 →
        ∃ e k v, (es.filter fun e => !seen.contains e.born)[j]? = some e ∧ e.key = key k ∧ e.val = v ∧ f k = some v ∧ g k = none ∧
          Tch [R] w (putObj w0 R (.mapIter (some M) clk (seen.push e.born) clk)) ∧
          (Instr.entry (.pointer (some ⟨R, 0, none⟩))).run P (putObj w0 R (.mapIter (some M) clk (seen.push e.born) clk)) = .ok (.tuple #[key k, v]) (putObj w0 R (.mapIter (some M) clk (seen.push e.born) clk)) ∧
          ∃ cnt', cnt' < cnt ∧ IterAt key (putObj w0 R (.mapIter (some M) clk (seen.push e.born) clk)) R M f (upd g k v) cnt' := by
      intro j w0 hj hw0 ht0
      have hmem : (es.filter fun e => !seen.contains e.born)[j] ∈ (es.filter fun e => !seen.contains e.born) := Array.getElem_mem hj
      obtain ⟨he, hns⟩ := Array.mem_filter.1 hmem
      generalize hE : (es.filter fun e => !seen.contains e.born)[j] = e at *
      have he' : e ∈ es.toList := by simpa using he
      have hns' : e.born ∉ seen := by simpa using hns
      obtain ⟨k, hk⟩ := hf.keys e he'
      have hfk : f k = some e.val := (hf.reads k e.val).2 ⟨e, he', hk, rfl⟩
      have uniq : ∀ x ∈ es.toList, x.key = key k → x = e := by
        intro x hx hxk
        obtain ⟨i1, h1⟩ := List.mem_iff_getElem?.1 hx
        obtain ⟨i2, h2⟩ := List.mem_iff_getElem?.1 he'
        have := pairwise_key_eq hf.apart h1 h2 (hxk.trans hk.symm)
        subst this
        rw [h1] at h2; simpa using h2
      have hgk : g k = none := by
        cases hgk : g k with
        | none => rfl
        | some v =>
          obtain ⟨x, hx, hxs, hxk, _⟩ := (hg k v).1 hgk
          rw [uniq x hx hxk] at hxs
          exact absurd hxs hns'
      have hRlt : R < w0.heap.size := by rw [hw0]; exact lt_of_heap hR
      refine ⟨e, k, e.val, by rw [← hE]; simp, hk, rfl, hfk, hgk, (ht0.mono (by simp)).putObj (by simp) _, ?_, ?_⟩
      · have hR1 := heap_putObj_same w0 R (.mapIter (some M) clk (seen.push e.born) clk) hRlt
        have hM1 : (putObj w0 R (.mapIter (some M) clk (seen.push e.born) clk)).heap[M]? = some (.map es clk) := by
          rw [heap_putObj_other w0 R _ M (Ne.symm hRM), hw0]; exact hM
        have hfind : es.find? (·.born == e.born) = some e := by
          cases hfi : es.find? (·.born == e.born) with
          | none => exact absurd (Array.find?_eq_none.1 hfi e he) (by simp)
          | some x =>
            have hxb : x.born = e.born := by simpa using Array.find?_some hfi
            have hxm : x ∈ es.toList := by simpa using Array.mem_of_find?_eq_some hfi
            rw [stamp_uniq hf.stamps hxm he' hxb]
        simp only [Instr.entry, Sem.run_bind, run_getObj_iter hR1, Result.andThen_ok, Array.back?_push, MapKept.run_getObj_map hM1, bne_self_eq_false, Bool.false_eq_true, if_false, hfind, hk, Sem.run_pure]
      refine ⟨(es.toList.filter fun e' => !(seen.push e.born).contains e'.born).length, ?_, es, clk, seen.push e.born, ?_, hf, heap_putObj_same w0 R _ hRlt, ?_, rfl⟩
      · rw [hcnt]
        refine filter_length_lt _ _ _ ?_ he' (by simpa using hns') (by simp)
        intro x _ hx
        simp only [Array.contains_push, Bool.not_or, Bool.and_eq_true] at hx
        exact hx.1
      · rw [heap_putObj_other w0 R _ M (Ne.symm hRM), hw0]; exact hM
      · intro k' v'
        unfold upd
        by_cases ek : k' = k
        · subst ek
          simp only [if_true, Option.some.injEq]
          constructor
          · rintro rfl; exact ⟨e, he', by simp, hk, rfl⟩
          · rintro ⟨x, hx, _, hxk, rfl⟩; rw [uniq x hx hxk]
        · rw [if_neg ek, hg]
          constructor
          · rintro ⟨x, hx, h1, h2, h3⟩; exact ⟨x, hx, by simp [h1], h2, h3⟩
          · rintro ⟨x, hx, h1, h2, h3⟩
            refine ⟨x, hx, ?_, h2, h3⟩
            rcases Array.mem_push.1 h1 with h1 | h1
            · exact h1
            · exfalso
              have hxe : x = e := stamp_uniq hf.stamps hx he' h1
              subst hxe
              exact ek (hinj _ _ (h2.symm.trans hk))
    by_cases h1 : (es.filter fun e => !seen.contains e.born).size ≤ 1
    · obtain ⟨e, k, v, hj, hk, hv, hfk, hgk, ht, hen, hit⟩ := step 0 w hpos rfl (Tch.refl _ _)
      refine ⟨k, v, _, ?_, hfk, hgk, ht, hen, hit⟩
      simp only [Instr.next, Sem.run_bind, run_getObj_iter hR, Result.andThen_ok, MapKept.run_getObj_map hM, hguard, Bool.false_eq_true, if_false, hold, hnew, hne, Array.empty_append, Array.append_empty, Array.size_map, run_choose, Question.forced, decide_eq_true h1, if_true, Array.getElem?_map, hj, Option.map_some, run_setObj_iter _ hR, Sem.run_pure, hk, hv]
    · have hlt : (Question.mapNext (es.filter fun e => !seen.contains e.born).size).cut (w.tape w.drawn (.mapNext (es.filter fun e => !seen.contains e.born).size)) < (es.filter fun e => !seen.contains e.born).size := by
        simp only [Question.cut]; exact Nat.mod_lt _ hpos
      obtain ⟨e, k, v, hj, hk, hv, hfk, hgk, ht, hen, hit⟩ := step _ w.drew hlt rfl (Tch.refl _ _).drew
      refine ⟨k, v, _, ?_, hfk, hgk, ht, hen, hit⟩
      have hR' : w.drew.heap[R]? = some (.mapIter (some M) clk seen clk) := hR
      simp only [Instr.next, Sem.run_bind, run_getObj_iter hR, Result.andThen_ok, MapKept.run_getObj_map hM, hguard, Bool.false_eq_true, if_false, hold, hnew, hne, Array.empty_append, Array.append_empty, Array.size_map, run_choose, Question.forced, decide_eq_false h1, World.drew_eq, Array.getElem?_map, hj, Option.map_some, run_setObj_iter _ hR', Sem.run_pure, hk, hv]

section ops
variable {ops : Array Oper} {rest : List Oper} {o : Oper} {a : Act} {w : World} {Q : Exit → Act → World → Prop} {T E : TypeId} {m k x : Operand} {M R : Nat} {f g : κ → Option Value} {dst : Option Tmp} {ty : TypeId} {pos : String} {af : Array Edge}
theorem wc_mapUpdate (hK : KeyT P K key) (hT : P.underlying T = some (.map K E)) (h : MapAt key w M f) {kk : κ} {v : Value} (hm : a.eval m = .map (some M)) (hk : a.eval k = key kk) (hx : a.eval x = v)
    (h' : ∀ w', Tch [M] w w' → MapAt key w' M (upd f kk v) → wpList P ops Q rest (a.put dst undef) w') : wpList P ops Q (⟨dst, .mapUpdate T m k x, ty, pos, af, none⟩ :: rest) a w := by
  obtain ⟨ob, hr, hm'⟩ := run_mapUpdate hK hT h kk v
  refine wc_done rfl (w' := putObj w M ob) ?_ (h' _ ((Tch.refl _ _).putObj (by simp) _) hm')
  unfold execOp
  simp [hm, hk, hx, hr]
theorem exec_lookup (ho : o.op = .lookup T m k true) (hK : KeyT P K key) (hT : P.underlying T = some (.map K E)) {z : Value} (hz : (zeroValue E).run P w = .ok z w) (hm : a.eval m = .map (some M)) {kk : κ} (hk : a.eval k = key kk)
    (h : MapAt key w M f) : (execOp a.eval o).run P w = .ok (.value (.tuple #[(f kk).getD z, .bool (f kk).isSome])) w := by
  have hr := run_lookup hK hT hz h kk true
  unfold execOp
  simp [ho, hm, hk, hr]
theorem exec_lookup1 (ho : o.op = .lookup T m k false) (hK : KeyT P K key) (hT : P.underlying T = some (.map K E)) {z : Value} (hz : (zeroValue E).run P w = .ok z w) (hm : a.eval m = .map (some M)) {kk : κ} (hk : a.eval k = key kk)
    (h : MapAt key w M f) : (execOp a.eval o).run P w = .ok (.value ((f kk).getD z)) w := by
  have hr := run_lookup hK hT hz h kk false
  unfold execOp
  simp [ho, hm, hk, hr]
omit [DecidableEq κ] in
theorem wc_clear {d : TypeDesc} (hT : P.underlying T = some d) (h : MapAt key w M f) {as : Array Operand} {ts : Array TypeId} (has : as = #[m]) (hts : ts = #[T]) (hm : a.eval m = .map (some M)) (h' : ∀ w', Tch [M] w w' → MapAt key w' M (fun _ => none) → wpList P ops Q rest (a.put dst (.tuple #[])) w') :
    wpList P ops Q (⟨dst, .call { callee := .builtin .clear, args := as, argTypes := ts }, ty, pos, af, none⟩ :: rest) a w := by
  subst has hts
  obtain ⟨ob, hr, hm'⟩ := run_clear (P := P) hT h (ty := ty)
  refine wc_value rfl (w' := putObj w M ob) ?_ (h' _ ((Tch.refl _ _).putObj (by simp) _) hm')
  unfold execOp
  simp [resolve, invoke, builtin, hm, hr]
omit [DecidableEq κ] in
theorem wc_range (hT : P.underlying T = some (.map K E)) (h : MapAt key w M f) (hm : a.eval m = .map (some M))
    (h' : ∀ w' cnt, Tch [] w w' → w'.heap.size = w.heap.size + 1 → IterAt key w' w.heap.size M f (fun _ => none) cnt → wpList P ops Q rest (a.put dst (.pointer (some ⟨w.heap.size, 0, none⟩))) w') :
    wpList P ops Q (⟨dst, .range T m, ty, pos, af, none⟩ :: rest) a w := by
  obtain ⟨ob, cnt, hr, hi⟩ := run_range (P := P) hT h
  refine wc_value rfl (w' := w.alloc ob) ?_ (h' _ cnt ((Tch.refl _ _).alloc _) (by simp) hi)
  unfold execOp
  simp [hm, hr]
theorem wc_next (hinj : ∀ a b, key a = key b → a = b) {cnt : Nat} (h : IterAt key w R M f g cnt) (hx : a.eval x = .pointer (some ⟨R, 0, none⟩))
    (h0 : g = f → wpList P ops Q rest (a.put dst (.tuple #[.bool false])) w)
    (h1 : ∀ kk v w' cnt', f kk = some v → g kk = none → Tch [R] w w' → (Instr.entry (.pointer (some ⟨R, 0, none⟩))).run P w' = .ok (.tuple #[key kk, v]) w' → cnt' < cnt → IterAt key w' R M f (upd g kk v) cnt' →
      wpList P ops Q rest (a.put dst (.tuple #[.bool true, key kk, v])) w') : wpList P ops Q (⟨dst, .next x false, ty, pos, af, none⟩ :: rest) a w := by
  rcases run_next (P := P) hinj h ty with ⟨hr, hgf⟩ | ⟨kk, v, w', hr, hf, hg, ht, hen, cnt', hlt, hi⟩
  · refine wc_value rfl (w' := w) ?_ (h0 hgf)
    unfold execOp
    simp [hx, hr]
  · refine wc_value rfl (w' := w') ?_ (h1 kk v w' cnt' hf hg ht hen hlt hi)
    unfold execOp
    simp [hx, hr]
theorem wc_entry {v : Value} (hr : (Instr.entry (.pointer (some ⟨R, 0, none⟩))).run P w = .ok v w) (hx : a.eval x = .pointer (some ⟨R, 0, none⟩)) (h : wpList P ops Q rest (a.put dst v) w) :
    wpList P ops Q (⟨dst, .entry x, ty, pos, af, none⟩ :: rest) a w := by
  refine wc_value rfl (w' := w) (v := v) ?_ h
  unfold execOp
  simp [hx, hr]
omit [DecidableEq κ] in
theorem wc_makeMap (key : κ → Value) (h' : MapAt key (w.alloc (.map #[] 0)) w.heap.size (fun _ => none) → wpList P ops Q rest (a.put dst (.map (some w.heap.size))) (w.alloc (.map #[] 0))) :
    wpList P ops Q (⟨dst, .makeMap T none, ty, pos, af, none⟩ :: rest) a w := by
  refine wc_value rfl (w' := w.alloc (.map #[] 0)) ?_ (h' (mapAt_new key w))
  unfold execOp
  simp [Instr.makeMap]
end ops
end
end Go.Cib
