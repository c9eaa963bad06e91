/-
  Pages over a log that is sound, plain: what Commit makes of them, what Open finds, what Make lays; no Go in it.
-/
import Derived.Test.YtkjgbhpnlgcinaaGreatDoorMP5
import Derived.Test.YtkjgbhpnlgcinaaGreatDoorMW6
import Derived.Test.YtkjgbhpnlgcinaaGreatDoorMW7
namespace Go.Cib
open Go Go.RowKit
theorem beVal_zero : ∀ (l : List UInt8), (∀ x ∈ l, x = 0) → beVal l = 0 := by
  have key : ∀ (l : List UInt8) (v : Nat), v = 0 → (∀ x ∈ l, x = 0) → l.foldl (fun v x => v * 256 + x.toNat) v = 0 := by
    intro l
    induction l with
    | nil => intro v hv _; exact hv
    | cons x l ih =>
      intro v hv h
      rw [List.foldl_cons]
      refine ih _ ?_ fun y hy => h y (List.mem_cons_of_mem _ hy)
      rw [hv, h x List.mem_cons_self]; rfl
  exact fun l h => key l 0 rfl h
theorem numAt_out {l : List Nat} {i : Nat} (h : l.length ≤ i) : numAt (numsPage l) i = 0 := by
  unfold numAt numsPage Arr.text
  refine beVal_zero _ fun x hx => ?_
  have h1 := List.mem_of_mem_take hx
  rw [List.drop_append] at h1
  have hlen := length_nums l
  rcases List.mem_append.1 h1 with h2 | h2
  · rw [List.drop_of_length_le (by rw [List.length_take]; omega)] at h2
    cases h2
  · exact (List.mem_replicate.1 (List.mem_of_mem_drop h2)).2
namespace LogS
theorem putNow_not : ∀ (ws : Rec) (now : Nat → Page) (p : Nat), p ∉ ws.map (·.1) → putNow now ws p = now p
  | [], _, _, _ => rfl
  | q :: ws, now, p, h => by
    show putNow (fun p => if p = q.1 then q.2 else now p) ws p = now p
    rw [List.map_cons, List.mem_cons, not_or] at h
    rw [putNow_not ws _ p h.2]
    exact if_neg h.1
theorem putNow_mem : ∀ (ws : Rec) (now : Nat → Page) (p : Nat) (x : Page), (ws.map (·.1)).Nodup → (p, x) ∈ ws → putNow now ws p = x
  | [], _, _, _, _, h => by cases h
  | q :: ws, now, p, x, hn, h => by
    show putNow (fun p => if p = q.1 then q.2 else now p) ws p = x
    rw [List.map_cons, List.nodup_cons] at hn
    rcases List.mem_cons.1 h with e | e
    · subst e
      rw [putNow_not ws _ p hn.1]
      exact if_pos rfl
    · exact putNow_mem ws _ p x hn.2 e
end LogS
/-- A state that Open takes. -/
structure StS.Good (s : StS) (pages : Nat) : Prop where
  t0 : s.taken 0 = true
  t1 : s.taken 1 = true
  out : ∀ n, pages ≤ n → s.taken n = false
  rt : ∀ i, i < 8 → s.roots i = 0 ∨ (2 ≤ s.roots i ∧ s.roots i < pages ∧ s.taken (s.roots i) = true)
  ro : ∀ i, 8 ≤ i → s.roots i = 0
namespace StS
theorem Good.lt {s : StS} {pages : Nat} (h : s.Good pages) (hp : pages ≤ 3840) (i : Nat) : s.roots i < 4294967296 := by
  by_cases hi : i < 8
  · rcases h.rt i hi with e | ⟨_, e, _⟩ <;> omega
  · rw [h.ro i (by omega)]; decide
theorem Good.said {s : StS} {pages : Nat} (h : s.Good pages) (hp : pages ≤ 3840) : PgS.said pages s.rootPage (s.bitPage pages) = s := by
  unfold PgS.said
  obtain ⟨tk, rt⟩ := s
  congr 1
  · funext n
    by_cases hn : n < pages
    · rw [bitOf_bitPage _ _ _ (by omega), decide_eq_true hn]; simp
    · rw [decide_eq_false hn, Bool.false_and]; exact (h.out n (by omega)).symm
  · funext i
    have hlen : (1885431653 :: rootList ⟨tk, rt⟩).length = 9 := by unfold rootList; simp
    by_cases hi : i < 8
    · refine numAt_nums (by rw [hlen]; decide) ?_ (h.lt hp i)
      rw [List.getElem?_cons_succ]
      unfold rootList
      rw [List.getElem?_map, List.getElem?_range hi]
      rfl
    · unfold rootPage
      rw [numAt_out (by rw [hlen]; omega)]
      exact (h.ro i (by omega)).symm
theorem Good.fine {s : StS} {pages : Nat} (h : s.Good pages) : PgS.fineS s pages s.rootPage (s.bitPage pages) = true := by
  unfold PgS.fineS
  simp only [Bool.and_eq_true, decide_eq_true_eq, List.all_eq_true, List.mem_range, Bool.or_eq_true]
  exact ⟨⟨⟨⟨h.t0, trivial⟩, h.t1⟩, trivial⟩, fun i hi => by
    rcases h.rt i hi with e | ⟨e1, e2, e3⟩
    · exact .inl e
    · exact .inr ⟨⟨e1, e2⟩, e3⟩⟩
theorem good_fresh {pages : Nat} (hp : 2 ≤ pages) : PgS.fresh.Good pages :=
  ⟨rfl, rfl, fun n hn => decide_eq_false (by omega), fun _ _ => .inl rfl, fun _ _ => rfl⟩
theorem Good.set {s : StS} {pages n : Nat} (h : s.Good pages) (hn : n < pages) (tk : Bool) (h2 : tk = false → 2 ≤ n ∧ ∀ i, i < 8 → s.roots i ≠ n) : (s.set n tk).Good pages := by
  have key : ∀ k, s.taken k = true → (tk = false → k ≠ n) → (s.set n tk).taken k = true := fun k hk hne => by
    show (if k = n then tk else s.taken k) = true
    by_cases e : k = n
    · rw [if_pos e]
      cases hto : tk with
      | true => rfl
      | false => exact absurd e (hne hto)
    · rw [if_neg e]; exact hk
  refine ⟨key 0 h.t0 fun ht => by have := (h2 ht).1; omega, key 1 h.t1 fun ht => by have := (h2 ht).1; omega, fun k hk => ?_, fun i hi => ?_, h.ro⟩
  · show (if k = n then tk else s.taken k) = false
    rw [if_neg (by omega)]; exact h.out k hk
  · rcases h.rt i hi with e | ⟨e1, e2, e3⟩
    · exact .inl e
    · exact .inr ⟨e1, e2, key _ e3 fun ht => (h2 ht).2 i hi⟩
theorem Good.setRoot {s : StS} {pages i n : Nat} (h : s.Good pages) (hi : i < 8) (hn : n = 0 ∨ (2 ≤ n ∧ n < pages ∧ s.taken n = true)) : (s.setRoot i n).Good pages := by
  refine ⟨h.t0, h.t1, h.out, fun k hk => ?_, fun k hk => ?_⟩
  · show (if k = i then n else s.roots k) = 0 ∨ (2 ≤ (if k = i then n else s.roots k) ∧ (if k = i then n else s.roots k) < pages ∧ s.taken (if k = i then n else s.roots k) = true)
    by_cases e : k = i
    · rw [if_pos e]; exact hn
    · rw [if_neg e]; exact h.rt k hk
  · show (if k = i then n else s.roots k) = 0
    rw [if_neg (by omega)]; exact h.ro k hk
end StS
namespace PgS
/-- Pages over a log that is sound and tells base. -/
structure Snd (P : PgS) (base : Nat → Page) : Prop where
  ok : P.Ok
  log : P.log.Sound true base
  b0 : base 0 = P.last.rootPage
  b1 : base 1 = P.last.bitPage P.pages
  good : P.now.Good P.pages
  goodl : P.last.Good P.pages
/-- What stands in a page. -/
def cur (P : PgS) (base : Nat → Page) (n : Nat) : Page := (P.over (n : Int)).getD (base n)
variable {P : PgS} {base : Nat → Page}
theorem Snd.read (h : P.Snd base) {n : Nat} (hn : n < P.pages) : P.log.read (n : Int) = ((base n, 0), P.log) := h.log.read (by rw [h.ok.same]; exact hn)
theorem Snd.get (h : P.Snd base) (n : Nat) : P.get (n : Int) = if P.may (n : Int) = 0 then ((P.cur base n, 0), P) else ((Arr.zero, P.may (n : Int)), P) := by
  unfold PgS.get
  by_cases hm : P.may (n : Int) = 0
  · rw [if_neg (by simp [hm]), if_pos hm]
    obtain ⟨h1, h2, h3⟩ := may_zero hm
    unfold cur
    cases ho : P.over (n : Int) with
    | some x => rfl
    | none =>
      simp only [h.read (show n < P.pages by omega)]
      rfl
  · rw [if_pos hm, if_neg hm]
/-- The images of the pages that were put. -/
def putWs (base : Nat → Page) (over : Int → Option Page) (l : List Int) : List (Int × Page) :=
  l.flatMap fun n => if base n.toNat ≠ (over n).getD Arr.zero then [(n, (over n).getD Arr.zero)] else []
theorem diffs_sound {S : LogS} (h : S.Sound true base) (over : Int → Option Page) : ∀ (l : List Int), (∀ n ∈ l, 0 ≤ n ∧ n < S.pages) → diffs over l S = (0, putWs base over l, S)
  | [], _ => rfl
  | n :: ns, hl => by
    have hn := hl n List.mem_cons_self
    obtain ⟨k, rfl⟩ := Int.eq_ofNat_of_zero_le hn.1
    have hr : S.read (k : Int) = ((base k, 0), S) := h.read (by omega)
    have ih := diffs_sound h over ns fun m hm => hl m (List.mem_cons_of_mem _ hm)
    unfold diffs
    rw [hr]
    simp only
    rw [if_neg (by simp), ih]
    rfl
theorem mem_keys {P : PgS} (ok : P.Ok) {n : Int} : n ∈ P.keys ↔ (P.over n).isSome = true := by
  unfold keys
  rw [List.mem_filter, List.mem_map]
  constructor
  · exact fun h => h.2
  · intro h
    obtain ⟨x, hx⟩ := Option.isSome_iff_exists.1 h
    have := ok.over n x hx
    exact ⟨⟨n.toNat, List.mem_range.2 (by omega), by omega⟩, h⟩
theorem keys_nodup (P : PgS) : P.keys.Nodup := by
  unfold keys
  exact List.Pairwise.filter _ (List.Pairwise.map _ (fun a b h e => h (by omega)) List.nodup_range)
theorem Snd.changed (h : P.Snd base) : P.changed = (0, P.stateWs ++ putWs base P.over P.keys, P) := by
  have e := diffs_sound h.log P.over P.keys fun n hn => by
    obtain ⟨x, hx⟩ := Option.isSome_iff_exists.1 ((mem_keys h.ok).1 hn)
    have := h.ok.over n x hx
    have := h.ok.same
    omega
  unfold PgS.changed
  rw [e]
  simp only
  rw [if_neg (by simp)]
theorem mem_putWs {over : Int → Option Page} {l : List Int} {q : Int × Page} : q ∈ putWs base over l ↔ q.1 ∈ l ∧ q.2 = (over q.1).getD Arr.zero ∧ base q.1.toNat ≠ q.2 := by
  unfold putWs
  rw [List.mem_flatMap]
  constructor
  · rintro ⟨n, hn, hq⟩
    split at hq
    · rename_i hne
      rw [List.mem_singleton.1 hq]
      exact ⟨hn, rfl, hne⟩
    · cases hq
  · rintro ⟨h1, h2, h3⟩
    refine ⟨q.1, h1, ?_⟩
    rw [← h2, if_pos h3]
    exact List.mem_singleton.2 rfl
theorem putWs_names (over : Int → Option Page) (l : List Int) : (putWs base over l).map (·.1) = l.filter fun n => decide (base n.toNat ≠ (over n).getD Arr.zero) := by
  induction l with
  | nil => rfl
  | cons n l ih =>
    unfold putWs at ih ⊢
    rw [List.flatMap_cons, List.map_append, ih, List.filter_cons]
    by_cases hne : base n.toNat ≠ (over n).getD Arr.zero
    · rw [if_pos hne, if_pos (decide_eq_true hne)]; rfl
    · rw [if_neg hne, if_neg (by simpa using hne)]; rfl
theorem mem_stateWs {q : Int × Page} : q ∈ P.stateWs ↔ (q = (0, P.now.rootPage) ∧ P.now.rootPage ≠ P.last.rootPage) ∨ (q = (1, P.now.bitPage P.pages) ∧ P.now.bitPage P.pages ≠ P.last.bitPage P.pages) := by
  unfold stateWs
  rw [List.mem_append]
  by_cases h1 : P.now.rootPage ≠ P.last.rootPage <;> by_cases h2 : P.now.bitPage P.pages ≠ P.last.bitPage P.pages <;> simp [h1, h2]
/-- What a Commit writes, and what the log tells behind it. -/
def ws (P : PgS) (base : Nat → Page) : List (Int × Page) := P.stateWs ++ putWs base P.over P.keys
def next (P : PgS) (base : Nat → Page) (n : Nat) : Page := if n = 0 then P.now.rootPage else if n = 1 then P.now.bitPage P.pages else P.cur base n
theorem ws_lt (ok : P.Ok) {q : Int × Page} (hq : q ∈ P.ws base) : 0 ≤ q.1 ∧ q.1 < P.pages := by
  have := ok.p3
  rcases List.mem_append.1 hq with h | h
  · rcases mem_stateWs.1 h with ⟨e, _⟩ | ⟨e, _⟩ <;> rw [e] <;> constructor <;> simp only <;> omega
  · obtain ⟨x, hx⟩ := Option.isSome_iff_exists.1 ((mem_keys ok).1 (mem_putWs.1 h).1)
    have := ok.over _ x hx
    omega
theorem ws_nodup (ok : P.Ok) : ((P.ws base).map (·.1)).Nodup := by
  unfold ws
  rw [List.map_append, List.nodup_append]
  refine ⟨?_, ?_, ?_⟩
  · unfold stateWs
    split <;> split <;> simp
  · rw [putWs_names]
    exact List.Pairwise.filter _ (keys_nodup P)
  · intro a ha b hb e
    subst e
    obtain ⟨q, hq, e1⟩ := List.mem_map.1 ha
    obtain ⟨r, hr, e2⟩ := List.mem_map.1 hb
    obtain ⟨x, hx⟩ := Option.isSome_iff_exists.1 ((mem_keys ok).1 (mem_putWs.1 hr).1)
    have := ok.over _ x hx
    rcases mem_stateWs.1 hq with ⟨e, _⟩ | ⟨e, _⟩ <;> rw [e] at e1 <;> simp only at e1 <;> omega
theorem nodup_len : ∀ (n : Nat) (l : List Nat), l.Nodup → (∀ x ∈ l, x < n) → l.length ≤ n
  | 0, l, _, h => by
    cases l with
    | nil => exact Nat.le_refl _
    | cons x l => exact absurd (h x List.mem_cons_self) (Nat.not_lt_zero _)
  | n + 1, l, hn, h => by
    have hl := nodup_len n (l.erase n) (hn.erase n) fun x hx => by
      have := (hn.mem_erase_iff).1 hx
      have := h x this.2
      omega
    by_cases hm : n ∈ l
    · rw [List.length_erase_of_mem hm] at hl; omega
    · rw [List.erase_of_not_mem hm] at hl; omega
theorem ws_len (ok : P.Ok) : (P.ws base).length ≤ P.pages := by
  have h1 : List.Pairwise (· ≠ ·) ((P.ws base).map (·.1)) := ws_nodup (base := base) ok
  have h2 := nodup_len P.pages (((P.ws base).map (·.1)).map Int.toNat) (List.Pairwise.map _ ?_ (List.Pairwise.and_mem.1 h1)) fun x hx => ?_
  · simpa using h2
  · rintro a b ⟨ha, hb, hne⟩ e
    obtain ⟨q, hq, rfl⟩ := List.mem_map.1 ha
    obtain ⟨r, hr, rfl⟩ := List.mem_map.1 hb
    have e1 := ws_lt ok hq
    have e2 := ws_lt ok hr
    apply hne
    omega
  · obtain ⟨n, hn, rfl⟩ := List.mem_map.1 hx
    obtain ⟨q, hq, rfl⟩ := List.mem_map.1 hn
    have := ws_lt ok hq
    omega
theorem nats_mem {w : List (Int × Page)} {p : Nat} {x : Page} (hp : ∀ q ∈ w, 0 ≤ q.1) : (p, x) ∈ LogS.nats w ↔ ((p : Int), x) ∈ w := by
  unfold LogS.nats
  rw [List.mem_map]
  constructor
  · rintro ⟨q, hq, e⟩
    have := hp q hq
    obtain ⟨a, b⟩ := q
    cases e
    have e : ((a.toNat : Nat) : Int) = a := by simp only at this; omega
    rw [e]; exact hq
  · intro h
    exact ⟨_, h, rfl⟩
theorem nats_nodup {w : List (Int × Page)} (hp : ∀ q ∈ w, 0 ≤ q.1) (hn : (w.map (·.1)).Nodup) : ((LogS.nats w).map (·.1)).Nodup := by
  unfold LogS.nats
  rw [List.map_map]
  have : w.map ((·.1) ∘ fun q => (q.1.toNat, q.2)) = (w.map (·.1)).map Int.toNat := by rw [List.map_map]; rfl
  rw [this]
  have hn2 : List.Pairwise (· ≠ ·) (w.map (·.1)) := hn
  refine List.Pairwise.map _ ?_ (List.Pairwise.and_mem.1 hn2)
  rintro a b ⟨ha, hb, hne⟩ e
  obtain ⟨q, hq, rfl⟩ := List.mem_map.1 ha
  obtain ⟨r, hr, rfl⟩ := List.mem_map.1 hb
  have h1 := hp q hq
  have h2 := hp r hr
  apply hne
  omega
theorem Snd.next_eq (h : P.Snd base) : LogS.putNow base (LogS.nats (P.ws base)) = P.next base := by
  have hp : ∀ q ∈ P.ws base, 0 ≤ q.1 := fun q hq => (ws_lt h.ok hq).1
  have hn := nats_nodup hp (ws_nodup h.ok)
  funext n
  have hit : ∀ x, ((n : Int), x) ∈ P.ws base → LogS.putNow base (LogS.nats (P.ws base)) n = x := fun x hx => LogS.putNow_mem _ _ _ _ hn ((nats_mem hp).2 hx)
  have miss : (∀ x, ((n : Int), x) ∉ P.ws base) → LogS.putNow base (LogS.nats (P.ws base)) n = base n := fun hx => LogS.putNow_not _ _ _ fun hm => by
    obtain ⟨⟨a, x⟩, hq, e⟩ := List.mem_map.1 hm
    simp only at e
    subst e
    exact hx x ((nats_mem hp).1 hq)
  have notState : ∀ x, 2 ≤ n → ((n : Int), x) ∉ P.stateWs := fun x h2 hm => by
    rcases mem_stateWs.1 hm with ⟨e, _⟩ | ⟨e, _⟩ <;> injection e with e1 <;> omega
  have notPut : ∀ x, n < 2 → ((n : Int), x) ∉ putWs base P.over P.keys := fun x h2 hm => by
    obtain ⟨y, hy⟩ := Option.isSome_iff_exists.1 ((mem_keys h.ok).1 (mem_putWs.1 hm).1)
    have := h.ok.over _ y hy
    simp only at this
    omega
  unfold PgS.next
  by_cases h0 : n = 0
  · rw [if_pos h0]
    by_cases hc : P.now.rootPage = P.last.rootPage
    · rw [miss, h0, h.b0, hc]
      intro x hx
      rcases List.mem_append.1 hx with hx | hx
      · rcases mem_stateWs.1 hx with ⟨_, e⟩ | ⟨e, _⟩
        · exact e hc
        · injection e with e1; omega
      · exact notPut x (by omega) hx
    · refine hit _ (List.mem_append_left _ (mem_stateWs.2 (.inl ⟨?_, hc⟩)))
      rw [h0]; rfl
  rw [if_neg h0]
  by_cases h1 : n = 1
  · rw [if_pos h1]
    by_cases hc : P.now.bitPage P.pages = P.last.bitPage P.pages
    · rw [miss, h1, h.b1, hc]
      intro x hx
      rcases List.mem_append.1 hx with hx | hx
      · rcases mem_stateWs.1 hx with ⟨e, _⟩ | ⟨_, e⟩
        · injection e with e1; omega
        · exact e hc
      · exact notPut x (by omega) hx
    · refine hit _ (List.mem_append_left _ (mem_stateWs.2 (.inr ⟨?_, hc⟩)))
      rw [h1]; rfl
  rw [if_neg h1]
  unfold cur
  cases ho : P.over (n : Int) with
  | none =>
    rw [miss]
    · rfl
    · intro x hx
      rcases List.mem_append.1 hx with hx | hx
      · exact notState x (by omega) hx
      · have := (mem_keys h.ok).1 (mem_putWs.1 hx).1
        simp only [ho] at this
        cases this
  | some y =>
    by_cases hc : base n = y
    · rw [miss, hc]
      · rfl
      · intro x hx
        rcases List.mem_append.1 hx with hx | hx
        · exact notState x (by omega) hx
        · obtain ⟨_, e2, e3⟩ := mem_putWs.1 hx
          simp only [ho, Option.getD_some, Int.toNat_natCast] at e2 e3
          rw [e2] at e3
          exact e3 hc
    · refine hit y (List.mem_append_right _ (mem_putWs.2 ⟨(mem_keys h.ok).2 (by simp only [ho]; rfl), by simp only [ho]; rfl, ?_⟩))
      simpa using hc
theorem Snd.may_ws (h : P.Snd base) : P.log.may (P.ws base) = if 120 < (P.ws base).length ∨ P.log.log < (P.ws base).length + 2 then 82 else 0 := by
  unfold LogS.may
  rw [if_pos ⟨fun q hq => by have := ws_lt h.ok hq; rw [h.ok.same]; exact this, ws_nodup h.ok⟩]
/-- Commit, where what is to be written finds room at all. -/
theorem Snd.commit (h : P.Snd base) (hg : P.log.gen + 1 < 18446744073709551616) (h120 : (P.ws base).length ≤ 120) (hl : (P.ws base).length + 2 ≤ P.log.log) :
    (P.commit.1 = 0 ∧ P.commit.2.Snd (P.next base) ∧ P.commit.2.now = P.now ∧ P.commit.2.last = P.now ∧ P.commit.2.over = (fun _ => none) ∧ P.commit.2.pages = P.pages ∧ P.commit.2.log.log = P.log.log ∧ P.commit.2.log.gen ≤ P.log.gen + 1 ∧ (P.log.disk.armed = 0 → P.commit.2.log.disk.armed = 0)) ∨
    (P.commit.1 = 6 ∧ P.commit.2.log.dead = true ∧ P.log.disk.armed ≠ 0 ∧ LogS.Left true P.log.log P.log.pages (P.log.gen + 1) P.commit.2.log.disk (fun n => n = base ∨ n = P.next base)) := by
  have hc := h.changed
  have hmay : P.log.may (P.ws base) = 0 := by rw [h.may_ws, if_neg (by omega)]
  have eC : P.commit = if (P.log.commit (P.ws base)).1 ≠ 0 then ((P.log.commit (P.ws base)).1, { P with log := (P.log.commit (P.ws base)).2 }) else (0, { P with log := (P.log.commit (P.ws base)).2, last := P.now, over := fun _ => none }) := by
    unfold PgS.commit
    rw [hc]
    simp only
    rw [if_neg (by simp)]
    rfl
  rcases h.log.commit hg (P.ws base) with ⟨a, _⟩ | ⟨_, a1, a2, a3, a4, a5, a6⟩ | ⟨_, a1, a2, a3, a4, a5, a6⟩
  · exact absurd hmay a
  · rw [if_neg (by simp [a1])] at eC
    rw [eC]
    rw [h.next_eq] at a2
    refine .inl ⟨rfl, ⟨⟨a2.ok, a4.trans h.ok.same, h.ok.p3, h.ok.p4, fun i x hx => (by cases hx), h.ok.now, h.ok.now, h.ok.roots, h.ok.roots⟩, a2, ?_, ?_, h.good, h.good⟩, rfl, rfl, rfl, rfl, a3, a5, a6⟩
    · unfold PgS.next; rw [if_pos rfl]
    · unfold PgS.next; rw [if_neg (by decide), if_pos rfl]
  · rw [if_pos (by rw [a1]; decide)] at eC
    rw [eC]
    rw [h.next_eq] at a6
    exact .inr ⟨a1, a2, a5, a6⟩
/-- Open over a log that is sound and tells a good state. -/
theorem opens_sound {S : LogS} {s : StS} (h : S.Sound true base) (hp3 : 3 ≤ S.pages) (hp4 : S.pages ≤ 3840) (g : s.Good S.pages) (b0 : base 0 = s.rootPage) (b1 : base 1 = s.bitPage S.pages) :
    opens S = (0, some ⟨S, S.pages, s, s, fun _ => none⟩, S) ∧ (⟨S, S.pages, s, s, fun _ => none⟩ : PgS).Snd base := by
  have r0 : S.read 0 = ((base 0, 0), S) := h.read (p := 0) (by omega)
  have r1 : S.read 1 = ((base 1, 0), S) := h.read (p := 1) (by omega)
  have hc : count S = S.pages := by unfold count; rw [if_neg (by simp [h.live])]
  have e : said S.pages (base 0) (base 1) = s := by rw [b0, b1]; exact g.said hp4
  have ef : fineS s S.pages (base 0) (base 1) = true := by rw [b0, b1]; exact g.fine
  constructor
  · unfold opens
    rw [hc, if_neg (by omega), r0]
    simp only
    rw [if_neg (by simp), r1]
    simp only
    rw [if_neg (by simp), e, ef, if_neg (by simp)]
  · exact ⟨⟨h.ok, rfl, hp3, hp4, fun i x hx => (by cases hx), g.out, g.out, fun i => g.lt hp4 i, fun i => g.lt hp4 i⟩, h, b0, b1, g, g⟩
/-- Make over a log that is sound. -/
theorem make_sound {S : LogS} (h : S.Sound true base) (hg : S.gen + 1 < 18446744073709551616) (hp3 : 3 ≤ S.pages) (hl : 4 ≤ S.log) (ha : S.disk.armed = 0) :
    ∃ base2, (make S).1 = 0 ∧ (make S).2.Sound true base2 ∧ base2 0 = fresh.rootPage ∧ base2 1 = fresh.bitPage S.pages ∧ (∀ n, 2 ≤ n → base2 n = base n) ∧ (make S).2.log = S.log ∧ (make S).2.pages = S.pages ∧ (make S).2.gen ≤ S.gen + 1 ∧ (make S).2.disk.armed = 0 := by
  have hc : count S = S.pages := by unfold count; rw [if_neg (by simp [h.live])]
  have e : make S = S.commit [(0, fresh.rootPage), (1, fresh.bitPage S.pages)] := by unfold make; rw [hc, if_neg (by omega)]
  have hm : S.may [((0 : Int), fresh.rootPage), (1, fresh.bitPage S.pages)] = 0 := by
    unfold LogS.may
    rw [if_pos, if_neg]
    · simp only [List.length_cons, List.length_nil]; omega
    · refine ⟨fun q hq => ?_, by simp⟩
      simp only [List.mem_cons, List.not_mem_nil, or_false] at hq
      rcases hq with rfl | rfl <;> constructor <;> simp only <;> omega
  rw [e]
  rcases h.commit hg [((0 : Int), fresh.rootPage), (1, fresh.bitPage S.pages)] with ⟨a, _⟩ | ⟨_, a1, a2, a3, a4, a5, a6⟩ | ⟨_, _, _, _, _, a5, _⟩
  · exact absurd hm a
  · refine ⟨_, a1, a2, rfl, rfl, fun n hn => ?_, a3, a4, a5, a6 ha⟩
    exact LogS.putNow_not _ _ _ (by show n ∉ [0, 1]; simp; omega)
  · exact absurd ha a5
end PgS
end Go.Cib
/-
  Small things ahead of package page's 'changed': the sort, with the block's type; what is read of the pages that were put, one behind the other.
-/
namespace Go.Cib
open Go Go.RowKit
namespace PgS
theorem diffs_cons (o : Int → Option Page) (n : Int) (ns : List Int) (L : LogS) : diffs o (n :: ns) L = if (L.read n).1.2 ≠ 0 then ((L.read n).1.2, [], (L.read n).2) else ((diffs o ns (L.read n).2).1, (if (L.read n).1.1 ≠ (o n).getD Arr.zero then [(n, (o n).getD Arr.zero)] else []) ++ (diffs o ns (L.read n).2).2.1, (diffs o ns (L.read n).2).2.2) := rfl
theorem diffs_nil (o : Int → Option Page) (L : LogS) : diffs o [] L = (0, [], L) := rfl
theorem diffs_append (o : Int → Option Page) : ∀ (l1 l2 : List Int) (L : LogS), diffs o (l1 ++ l2) L = if (diffs o l1 L).1 ≠ 0 then diffs o l1 L else ((diffs o l2 (diffs o l1 L).2.2).1, (diffs o l1 L).2.1 ++ (diffs o l2 (diffs o l1 L).2.2).2.1, (diffs o l2 (diffs o l1 L).2.2).2.2)
  | [], l2, L => by
    rw [if_neg (by show ¬ (0 : Int) ≠ 0; simp)]
    rfl
  | n :: ns, l2, L => by
    have ih := diffs_append o ns l2 (L.read n).2
    rw [List.cons_append, diffs_cons, diffs_cons, ih]
    by_cases h : (L.read n).1.2 ≠ 0
    · rw [if_pos h, if_pos h, if_pos h]
    · rw [if_neg h, if_neg h]
      by_cases h2 : (diffs o ns (L.read n).2).1 ≠ 0
      · rw [if_pos h2, if_pos h2]
      · rw [if_neg h2, if_neg h2, List.append_assoc]
def diffT (P : PgS) (j : Nat) : Int × List (Int × Page) × LogS := diffs P.over (P.keys.take j) P.log
theorem diffT_step (P : PgS) {j : Nat} {n : Int} (hn : P.keys[j]? = some n) (h0 : (P.diffT j).1 = 0) :
    P.diffT (j + 1) = if ((P.diffT j).2.2.read n).1.2 ≠ 0 then (((P.diffT j).2.2.read n).1.2, (P.diffT j).2.1, ((P.diffT j).2.2.read n).2)
      else (0, (P.diffT j).2.1 ++ (if ((P.diffT j).2.2.read n).1.1 ≠ (P.over n).getD Arr.zero then [(n, (P.over n).getD Arr.zero)] else []), ((P.diffT j).2.2.read n).2) := by
  have e : P.keys.take (j + 1) = P.keys.take j ++ [n] := by rw [List.take_add_one, hn]; rfl
  unfold diffT at h0 ⊢
  rw [e, diffs_append, if_neg (by simp [h0]), diffs_cons]
  generalize diffs P.over (P.keys.take j) P.log = D at *
  by_cases h : (D.2.2.read n).1.2 ≠ 0
  · rw [if_pos h, if_pos h, List.append_nil]
  · rw [if_neg h, if_neg h, diffs_nil, List.append_nil]
theorem changed_bad (P : PgS) {j : Nat} {n : Int} (hn : P.keys[j]? = some n) (h0 : (P.diffT j).1 = 0) (hr : ((P.diffT j).2.2.read n).1.2 ≠ 0) :
    P.changed = (((P.diffT j).2.2.read n).1.2, [], { P with log := ((P.diffT j).2.2.read n).2 }) := by
  have h1 := P.diffT_step hn h0
  rw [if_pos hr] at h1
  have e : diffs P.over P.keys P.log = P.diffT (j + 1) := by
    have := diffs_append P.over (P.keys.take (j + 1)) (P.keys.drop (j + 1)) P.log
    rw [List.take_append_drop] at this
    rw [this]
    show (if (P.diffT (j + 1)).1 ≠ 0 then P.diffT (j + 1) else _) = _
    rw [if_pos (by rw [h1]; exact hr)]
  unfold PgS.changed
  rw [e, h1]
  simp only
  rw [if_pos hr]
theorem changed_good (P : PgS) (h0 : (P.diffT P.keys.length).1 = 0) : P.changed = (0, P.stateWs ++ (P.diffT P.keys.length).2.1, { P with log := (P.diffT P.keys.length).2.2 }) := by
  have e : diffs P.over P.keys P.log = P.diffT P.keys.length := by unfold diffT; rw [List.take_length]
  unfold PgS.changed
  rw [e, if_neg (by simp [h0])]
end PgS
end Go.Cib
namespace Go.Proofs.YtkjgbhpnlgcinaaGreatDoor
open Go.RowKit Go.Cib
theorem ownImgs_type {w : World} {B : Nat} {v : Value} {ls : List (Int × Page)} {e : TypeId} (h : OwnImgs w B e v ls) : ∀ k ∈ v.ownBlock.toList, ∃ c, w.heap[k]? = some (.cells c e) := by
  intro k hk
  rcases h.shape with ⟨rfl, _⟩ | ⟨g, cap, cur, rfl, hb, hg, _⟩
  · simp [Value.ownBlock] at hk
  · have : k = g := by simpa [Value.ownBlock] using hk
    subst this
    exact ⟨cur, hg⟩
/-- The sort, and what type the block has behind it. -/
theorem sort2_any (w : World) (B : Nat) (v : Value) (l : List Int) (h : OwnInts w B 3 v l) (hl : l.length < 4611686018427387904) :
    Calls Tryz.prog 107 #[v] w fun e w' => e = .returned (.tuple #[]) ∧ Tch v.ownBlock.toList w w' ∧ ∃ a cap, v = .slice a l.length cap ∧ IntsAt w' a (l.mergeSort fun x y => decide (x ≤ y)) ∧ ∀ b o p, a = some ⟨b, o, p⟩ → ∃ c, w'.heap[b]? = some (.cells c 3) := by
  rcases h.shape with ⟨rfl, rfl⟩ | ⟨g, cap, cur, rfl, hb, hg, hlc, _, hcs, htk⟩
  · refine (Tryz.slices_Sort_int_none none 0 w).mono ?_
    rintro e w' ⟨rfl, rfl⟩
    exact ⟨rfl, Tch.refl _ _, none, 0, rfl, (by intro j x hj; simp at hj), (by intro b o p h; cases h)⟩
  · have hcell : ∀ j, j < l.length → cur[j]? = some (.int .i64 (l.toArray[j]!)) := by
      intro j hj
      have h1 : (cur.toList.take l.length)[j]? = (l.map (Value.int .i64))[j]? := by rw [htk]
      rw [List.getElem?_take, if_pos hj, Array.getElem?_toList, List.getElem?_map, List.getElem?_eq_getElem hj] at h1
      rw [h1]
      simp [hj]
    have hH : Sort.Holds (Value.int .i64) w g 0 l.toArray := by
      intro j hj
      have hj' : j < l.length := by simpa using hj
      refine ⟨?_, frozen_of_row w g _ _ _ hg⟩
      rw [cell_of_row w g _ _ _ _ hg, Nat.zero_add]
      exact hcell j hj'
    refine (Tryz.slices_Sort_int g 0 cap l w hH (lt_of_heap hg) hl).mono ?_
    rintro e w' ⟨rfl, n, os, rfl⟩
    have hsz : (l.mergeSort fun x y => decide (x ≤ y)).toArray.size = l.toArray.size := by simp
    have hother : ∀ k, k < w.heap.size → k ≠ g → (Sort.grow (Sort.putRow (Value.int .i64) (Sort.ahead w n) g 0 (l.mergeSort fun x y => decide (x ≤ y)).toArray) os).heap[k]? = w.heap[k]? := by
      intro k hk hkg
      rw [Sort.heap_grow_old _ _ (by simpa [Sort.ahead] using hk)]
      simp only [Sort.putRow, Sort.mapBlock, Sort.ahead, Array.getElem?_modify]
      rw [if_neg (fun e => hkg e.symm)]
    refine ⟨rfl, ⟨rfl, rfl, rfl, by simp [Sort.ahead], fun k hk hn => hother k hk (by simpa [Value.ownBlock] using hn)⟩, _, _, rfl, fun j x hj => ⟨g, 0, rfl, ?_⟩, ?_⟩
    rotate_left
    · intro b o p hbo
      cases hbo
      rw [Sort.heap_grow_old _ _ (by simpa [Sort.ahead] using lt_of_heap hg)]
      simp only [Sort.putRow, Sort.mapBlock, Sort.ahead, Array.getElem?_modify, if_true, hg, Option.map_some]
      exact ⟨_, rfl⟩
    have hjl : j < (l.mergeSort fun x y => decide (x ≤ y)).toArray.size := by
      have := (List.getElem?_eq_some_iff.1 hj).1
      simpa using this
    rw [Sort.cell?_grow _ _ _ (by simpa [Sort.ahead] using lt_of_heap hg)]
    rw [Sort.cell?_putRow (Value.int .i64) (Sort.ahead w n) g 0 l.toArray _ hH hsz j hjl]
    congr 2
    rw [getElem!_pos _ j hjl]
    simp only [List.getElem_toArray]
    exact (List.getElem?_eq_some_iff.1 hj).2


/-- The pages' numbers, sorted, in memory of their own. -/
def KeysIn (w : World) (B : Nat) (a : Option Addr) (l : List Int) : Prop := IntsAt w a l ∧ ∀ b o p, a = some ⟨b, o, p⟩ → B ≤ b ∧ ∃ c, w.heap[b]? = some (.cells c 3)
theorem KeysIn.touch {w w' : World} {B : Nat} {a : Option Addr} {l : List Int} {S : List Nat} (h : KeysIn w B a l) (ht : Tch S w w') (hn : ∀ k ∈ S, k < B ∨ ∃ c, w.heap[k]? = some (.cells c 84)) : KeysIn w' B a l := by
  have key : ∀ b o p, a = some ⟨b, o, p⟩ → b ∉ S := fun b o p hb hm => by
    obtain ⟨h1, c, h2⟩ := h.2 b o p hb
    rcases hn b hm with h3 | ⟨c2, h3⟩
    · omega
    · exact absurd (type_ne h2 h3) (by decide)
  refine ⟨fun j x hj => ?_, fun b o p hb => ?_⟩
  · obtain ⟨b, o, e, hc⟩ := h.1 j x hj
    exact ⟨b, o, e, cell_touch ht hc (key _ _ _ e)⟩
  · obtain ⟨h1, c, h2⟩ := h.2 b o p hb
    exact ⟨h1, c, ht.heap h2 (key _ _ _ hb)⟩
end Go.Proofs.YtkjgbhpnlgcinaaGreatDoor
/-
  Package page's changed: the loop over the two pages of the state.
-/
namespace Go.Proofs.YtkjgbhpnlgcinaaGreatDoor
open Go.RowKit Go.Cib
theorem exec_alloc_page9 {a : Act} {w : World} {dst : Option Tmp} {ty : TypeId} {pos : String} {af : Array Edge} {gd : Option (Nat × Bool)} : (execOp a.eval ⟨dst, .alloc 54, ty, pos, af, gd⟩).run Tryz.prog w = .ok (.value (.pointer (some ⟨w.heap.size, 0, none⟩))) (w.alloc (.cells (secA (Arr.zero : Page)) 54)) := by
  obtain ⟨i, h1, _, _, h2⟩ := pageT.info
  have h2' : i.zero = some (.agg (secA (Arr.zero : Page))) := h2
  generalize secA (Arr.zero : Page) = z at *
  exact exec_alloc h1 h2' rfl
theorem exec_store_page9 {a : Act} {w : World} {dst : Option Tmp} {ty : TypeId} {pos : String} {af : Array Edge} {gd : Option (Nat × Bool)} {x y : Operand} {B : Nat} {s0 s : Page} {e : TypeId} (hb : w.heap[B]? = some (.cells (secA s0) e)) (hx : a.eval x = .pointer (some ⟨B, 0, none⟩)) (hy : a.eval y = .agg (secA s)) :
    (execOp a.eval ⟨dst, .store 54 x y, ty, pos, af, gd⟩).run Tryz.prog w = .ok .skip (w.setRow B (secA s)) := by
  rw [exec_store_agg pageT.agg rfl hx hy (by simp) (secA_one s) hb (by simp), spl_all]
theorem PgAt.lt {w : World} {p g d L M V Mo : Nat} {P : PgS} (h : PgAt w p g d L M V Mo P) : ∀ k ∈ 0 :: pgB p g d L M V Mo, k < w.heap.size := by
  intro k hk
  simp only [List.mem_cons, List.not_mem_nil, or_false] at hk
  have h0 := h.tab 0 0 rfl
  rcases hk with rfl | rfl | rfl | rfl | rfl | rfl | rfl | rfl
  · exact block_lt_of_cell h0
  · exact lt_of_heap h.hp
  · exact lt_of_heap h.log.hg
  · exact lt_of_heap h.log.hD.hd
  · exact lt_of_heap h.log.hD.hL
  · exact h.log.hD.hM.lt
  · exact h.log.hV.lt
  · exact h.hM.lt
def ChV (p j pages : Nat) (q : Page) : Nat → Value
  | 0 => .pointer (some ⟨p, 0, none⟩)
  | 1 => .pointer (some ⟨p, 0, none⟩)
  | 2 => .pointer (some ⟨p, 3, none⟩)
  | 3 => .int .i64 j
  | 4 => .pointer (some ⟨p, 0, none⟩)
  | 5 => .pointer (some ⟨p, 0, none⟩)
  | 6 => .pointer (some ⟨p, 1, none⟩)
  | 7 => .int .i64 pages
  | _ => .agg (secA q)

/-- The images of the state, of the first j pages. -/
def stateTo (P : PgS) (j : Nat) : List (Int × Page) := (if 0 < j ∧ P.now.rootPage ≠ P.last.rootPage then [(0, P.now.rootPage)] else []) ++ (if 1 < j ∧ P.now.bitPage P.pages ≠ P.last.bitPage P.pages then [(1, P.now.bitPage P.pages)] else [])
theorem stateTo_two (P : PgS) : stateTo P 2 = P.stateWs := by
  unfold stateTo PgS.stateWs
  simp
theorem stateTo_step (P : PgS) {j : Nat} (hj : j < 2) : stateTo P (j + 1) = if P.now.page j P.pages = P.last.page j P.pages then stateTo P j else stateTo P j ++ [((j : Int), P.now.page j P.pages)] := by
  rcases (show j = 0 ∨ j = 1 by omega) with rfl | rfl
  · unfold stateTo StS.page
    by_cases h : P.now.rootPage = P.last.rootPage <;> simp [h]
  · unfold stateTo StS.page
    by_cases h : P.now.bitPage P.pages = P.last.bitPage P.pages <;> by_cases h2 : P.now.rootPage = P.last.rootPage <;> simp [h, h2]
theorem stateTo_len (P : PgS) (j : Nat) : (stateTo P j).length ≤ 2 := by
  unfold stateTo
  rw [List.length_append]
  split <;> split <;> simp
set_option maxRecDepth 20000 in
set_option maxHeartbeats 2000000 in
theorem pchangedIn_any {w : World} {p g d L M V Mo : Nat} {P : PgS} (h : PgAt w p g d L M V Mo P) (ok : P.Ok) :
    Calls Tryz.prog 55 #[.pointer (some ⟨p, 0, none⟩)] w (ChangedOut w p g d L M V Mo P) := by
  have H := Lib.hid h
  have OKK := Lib.hid ok
  have c2 := h.c2
  clear h ok
  go_enter Tryz.func55, Tryz.ntmps55
  go_upto_block 0 with fail
  go_cut [4, 5, 6, 17] from 17 to 46 (fun v _ _ _ wx => OwnImgs wx w.heap.size 84 v P.stateWs ∧ Tch [] w wx)
  case first =>
    go_wp2_with fail
    go_loopg [4, 5, 6, 17] 2 (fun q v _ _ i wr => ∃ j, OnAt 2 i q j ∧ OwnImgs wr w.heap.size 84 v (stateTo P j) ∧ Tch [] w wr)
    case atStart => exact ⟨0, ⟨Nat.zero_le _, rfl, rfl⟩, by simpa [stateTo] using ownImgs_nil w w.heap.size 84, Tch.refl _ _⟩
    case round =>
      obtain ⟨j, ⟨hj, rfl, rfl⟩, ho, ht⟩ := hrel
      obtain ⟨a4, k4, hv4, _⟩ := ho.at_
      obtain ⟨ln, hln⟩ : ∃ ln, (stateTo P j).length = ln := ⟨_, rfl⟩
      have hlb : ln ≤ 2 := by rw [← hln]; exact stateTo_len P j
      rw [hln] at hv4
      subst hv4
      have HLN := Lib.hid (And.intro hln hlb)
      clear hln hlb
      have HOJ := Lib.hid ho
      have HTJ := Lib.hid ht
      have HJ := Lib.hid hj
      have c1 := cell_old ht H.out.c1
      have c2 := cell_old ht H.out.c2
      clear ho ht hj
      by_cases hj2 : (j : Int) < 2
      · have HJ2 : Hid (j < 2) := by show _ < _; omega
        have HPW := Lib.hid (HTJ.out.heap H.out.hp (by simp))
        have CPG : Hid (∀ W, Tch [] wr W → Calls Tryz.prog 61 #[.pointer (some ⟨p, 3, none⟩), .int .i64 j, .int .i64 P.pages] W fun e w' => e = .returned (.agg (secA (P.now.page j P.pages))) ∧ Tch [] W w') := fun W ht => page_any (ht.heap HPW.out (by simp)) (pgA_now _ _ _ _ _) OKK.out.roots j P.pages (by have := HJ2.out; omega) OKK.out.p4
        obtain ⟨q, hq⟩ : ∃ q, P.now.page j P.pages = q := ⟨_, rfl⟩
        rw [hq] at CPG
        have HQ := Lib.hid hq
        clear hq
        have CPG : ∀ W, Tch [] wr W → Calls Tryz.prog 61 #[.pointer (some ⟨p, 3, none⟩), .int .i64 j, .int .i64 P.pages] W fun e w' => e = .returned (.agg (secA q)) ∧ Tch [] W w' := CPG.out
        have CPG := Lib.hid CPG
        go_upto_region 5 with fail
        obtain ⟨pages, hpgs⟩ : ∃ pages, P.pages = pages := ⟨_, rfl⟩
        rw [hpgs] at c1 CPG
        refine wp_region_state 11 (MadeOne wr (ChV p j pages q) 9 10 (.cells (secA (Arr.zero : Page)) 54) (.cells (secA q) 54)) (by kernel_rfl) (by kernel_rfl) (fun vs => ⟨(Tch.refl _ _).drew, fun j _ _ hl => (by rw [getD_replicate_false] at hl; cases hl), fun hl => (by rw [getD_replicate_false] at hl; cases hl), fun hl => (by rw [getD_replicate_false] at hl; cases hl)⟩) ?_ ?_
        · intro i o hi ho listed vs fu w' hI hsz hnl hold hdep
          have d1 := cell_old hI.tch c1
          have hi7 : i = 0 ∨ i = 1 ∨ i = 2 ∨ i = 3 ∨ i = 4 ∨ i = 5 ∨ i = 6 ∨ i = 7 ∨ i = 8 ∨ i = 9 ∨ i = 10 := by omega
          rcases hi7 with rfl | rfl | rfl | rfl | rfl | rfl | rfl | rfl | rfl | rfl | rfl
          all_goals (simp only [List.getElem?_cons_zero, List.getElem?_cons_succ, Option.some.injEq] at ho; subst ho)
          · refine step_plain rfl ?_
            have x0 : fu.tmps[0]?.getD undef = .pointer (some ⟨p, 0, none⟩) := ev_tmp (hold 0 (by show _ < 101; omega) (by kernel_rfl))
            go_simp
            exact hI.plain (Tch.refl _ _) (by decide) (by decide)
          · refine step_plain rfl ?_
            obtain ⟨l20, e20⟩ := hdep 0 20 (by show _ < 101; omega) (by kernel_rfl) (by kernel_rfl)
            have x20 : fu.tmps[20]?.getD undef = .pointer (some ⟨p, 0, none⟩) := ev_tmp (e20.trans (hI.vals 0 (by decide) (by decide) l20))
            go_simp
            exact hI.plain (Tch.refl _ _) (by decide) (by decide)
          · refine step_plain rfl ?_
            obtain ⟨l21, e21⟩ := hdep 1 21 (by show _ < 101; omega) (by kernel_rfl) (by kernel_rfl)
            have x21 : fu.tmps[21]?.getD undef = .pointer (some ⟨p, 0, none⟩) := ev_tmp (e21.trans (hI.vals 1 (by decide) (by decide) l21))
            go_simp
            exact hI.plain (Tch.refl _ _) (by decide) (by decide)
          · refine step_plain rfl ?_
            have x5 : fu.tmps[5]?.getD undef = .int .i64 j := ev_tmp (hold 5 (by show _ < 101; omega) (by kernel_rfl))
            go_simp
            exact hI.plain (Tch.refl _ _) (by decide) (by decide)
          · refine step_plain rfl ?_
            have x0 : fu.tmps[0]?.getD undef = .pointer (some ⟨p, 0, none⟩) := ev_tmp (hold 0 (by show _ < 101; omega) (by kernel_rfl))
            go_simp
            exact hI.plain (Tch.refl _ _) (by decide) (by decide)
          · refine step_plain rfl ?_
            obtain ⟨l24, e24⟩ := hdep 4 24 (by show _ < 101; omega) (by kernel_rfl) (by kernel_rfl)
            have x24 : fu.tmps[24]?.getD undef = .pointer (some ⟨p, 0, none⟩) := ev_tmp (e24.trans (hI.vals 4 (by decide) (by decide) l24))
            go_simp
            exact hI.plain (Tch.refl _ _) (by decide) (by decide)
          · refine step_plain rfl ?_
            obtain ⟨l25, e25⟩ := hdep 5 25 (by show _ < 101; omega) (by kernel_rfl) (by kernel_rfl)
            have x25 : fu.tmps[25]?.getD undef = .pointer (some ⟨p, 0, none⟩) := ev_tmp (e25.trans (hI.vals 5 (by decide) (by decide) l25))
            go_simp
            exact hI.plain (Tch.refl _ _) (by decide) (by decide)
          · refine step_plain rfl ?_
            obtain ⟨l26, e26⟩ := hdep 6 26 (by show _ < 101; omega) (by kernel_rfl) (by kernel_rfl)
            have x26 : fu.tmps[26]?.getD undef = .pointer (some ⟨p, 1, none⟩) := ev_tmp (e26.trans (hI.vals 6 (by decide) (by decide) l26))
            go_simp
            exact hI.plain (Tch.refl _ _) (by decide) (by decide)
          · refine step_plain rfl ?_
            obtain ⟨l22, e22⟩ := hdep 2 22 (by show _ < 101; omega) (by kernel_rfl) (by kernel_rfl)
            have x22 : fu.tmps[22]?.getD undef = .pointer (some ⟨p, 3, none⟩) := ev_tmp (e22.trans (hI.vals 2 (by decide) (by decide) l22))
            obtain ⟨l23, e23⟩ := hdep 3 23 (by show _ < 101; omega) (by kernel_rfl) (by kernel_rfl)
            have x23 : fu.tmps[23]?.getD undef = .int .i64 j := ev_tmp (e23.trans (hI.vals 3 (by decide) (by decide) l23))
            obtain ⟨l27, e27⟩ := hdep 7 27 (by show _ < 101; omega) (by kernel_rfl) (by kernel_rfl)
            have x27 : fu.tmps[27]?.getD undef = .int .i64 pages := ev_tmp (e27.trans (hI.vals 7 (by decide) (by decide) l27))
            go_simp
            refine (CPG.out w' hI.tch).mono ?_
            rintro e w6 ⟨rfl, q1⟩
            exact ⟨_, rfl, hI.plain q1 (by decide) (by decide)⟩
          · refine step_plain rfl ?_
            exact stpR_ok (exec_alloc_page9) (hI.alloc (by decide) hnl hsz)
          · refine step_plain rfl ?_
            obtain ⟨lA, eA⟩ := hdep 9 6 (by show _ < 101; omega) (by kernel_rfl) (by kernel_rfl)
            obtain ⟨lB, eB⟩ := hdep 8 28 (by show _ < 101; omega) (by kernel_rfl) (by kernel_rfl)
            have xB : fu.eval (.tmp 28) = .agg (secA q) := eB.trans (hI.vals 8 (by decide) (by decide) lB)
            obtain ⟨F, hB1, hB2, hB3⟩ := hI.made lA
            rw [if_neg (by rw [hnl]; simp)] at hB3
            have hb3 : w'.heap[F]? = some (.cells (secA (Arr.zero : Page)) 54) := hB3
            refine stpR_skip (exec_store_page9 hb3 (eA.trans hB1) xB) ?_
            exact hI.store (by decide) hsz lA hB1 hB2 ((Tch.refl _ _).setRow (.inl (by simp)) _) (setRow_heap _ _ _ _ _ _ hb3) _
        · intro vs w3 hI
          obtain ⟨F, hF1, hF2, hF3⟩ := hI.made (by kernel_rfl)
          rw [if_pos (by kernel_rfl)] at hF3
          have t3 := hI.tch
          have X9 := Lib.hid hF1
          have FB := Lib.hid hF3
          have t3' := Lib.hid t3
          have T3 := Lib.hid (HTJ.out.trans t3)
          have C1 : Hid (∀ w', Tch [] w3 w' → w'.cell? ⟨p, 1, none⟩ = some (.int .i64 pages)) := fun w' ht => cell_old (t3'.out.trans ht) c1
          have CX : Hid (∀ w', Tch [] w3 w' → w'.heap[F]? = some (.cells (secA q) 54)) := fun w' ht => ht.heap FB.out (by simp)
          have CPL0 : ∀ w', Tch [] w3 w' → Calls Tryz.prog 61 #[.pointer (some ⟨p, 267, none⟩), .int .i64 j, .int .i64 P.pages] w' fun e w'' => e = .returned (.agg (secA (P.last.page j P.pages))) ∧ Tch [] w3 w'' := fun w' ht => (page_any ((t3'.out.trans ht).heap HPW.out (by simp)) (pgA_last _ _ _ _ _) OKK.out.roots' j P.pages (by have := HJ2.out; omega) OKK.out.p4).mono fun e w'' ⟨a1, a2⟩ => ⟨a1, ht.trans a2⟩
          obtain ⟨q2, hq2⟩ : ∃ q2, P.last.page j P.pages = q2 := ⟨_, rfl⟩
          rw [hq2, hpgs] at CPL0
          have CPL := Lib.hid CPL0
          have HQ2 := Lib.hid hq2
          have HST := Lib.hid (stateTo_step P HJ2.out)
          have HPS := Lib.hid hpgs
          clear hI hF1 hF2 hF3 t3 c1 c2 CPG CPL0 hq2 hpgs
          unfold fullOf
          rw [show (List.range 11).map vs = [vs 0, vs 1, vs 2, vs 3, vs 4, vs 5, vs 6, vs 7, vs 8, vs 9, vs 10] from rfl, X9.out]
          generalize vs 0 = v0
          generalize vs 1 = v1
          generalize vs 2 = v2
          generalize vs 3 = v3
          generalize vs 4 = v4
          generalize vs 5 = v5
          generalize vs 6 = v6
          generalize vs 7 = v7
          generalize vs 8 = v8
          generalize vs 10 = v10
          clear X9 vs
          simp only [List.take_succ_cons, List.take_zero, List.drop_succ_cons, List.drop_zero, putAll]
          go_frame
          go_upto_region 6 with fail
          by_cases hz : q = q2
          · have HZZ : Hid (decide (q = q2) = true) := decide_eq_true hz
            have HZ := Lib.hid hz
            clear hz
            refine wp_region_walk (C := fun w' => Tch [] w3 w') 11 (by kernel_rfl) (by kernel_rfl) ((Tch.refl _ _).drew) ?_
            simp only [List.take_succ_cons, List.take_zero, List.drop_succ_cons, List.drop_nil]
            (repeat (first
              | ((with_reducible refine wq_fn cf_page ?_ ?_ CPL.out ?_); exact rfl; exact rfl; go_frame)
              | ((with_reducible refine wq_load_cell (by kernel_rfl) C1.out ?_ ?_ ?_); exact rfl; exact rfl; go_frame)
              | ((with_reducible refine wq_load_var pageT CX.out ?_ ?_ ?_); exact rfl; exact rfl; go_frame)
              | ((with_reducible refine wq_neq_arr pageT (s := q) (t := q2) ?_ ?_ ?_ ?_); exact rfl; exact rfl; exact rfl; rw [HZZ.out]; go_frame)
              | go_big_quiet_skip | (go_big_quiet_want; go_big_quiet_op; first | go_big_quiet_on | (refine ⟨_, fun _ _ => rfl, ?_⟩; go_big_quiet_on))))
            refine wpQuiet_nil ?_
            intro we te
            have TE := Lib.hid (T3.out.trans te)
            have XE := Lib.hid (te.heap FB.out (by simp))
            have OE := Lib.hid (HOJ.out.kept (t3'.out.trans te) (by simp))
            clear te CX C1 CPL
            go_wp2_with fail
            go_roundg (2 - (j + 1))
            case measure => (have := HJ2.out; omega)
            case rel =>
              refine ⟨j + 1, ⟨by (have := HJ2.out; omega), by go_num, rfl⟩, ?_, TE.out⟩
              rw [HST.out, if_pos (by rw [HQ.out, HQ2.out]; exact HZ.out)]
              exact OE.out
          · have HZZ : Hid (decide (q = q2) = false) := decide_eq_false hz
            have HZ := Lib.hid hz
            clear hz
            refine wp_region_walk (C := fun w' => Tch [] w3 w') 11 (by kernel_rfl) (by kernel_rfl) ((Tch.refl _ _).drew) ?_
            simp only [List.take_succ_cons, List.take_zero, List.drop_succ_cons, List.drop_nil]
            (repeat (first
              | ((with_reducible refine wq_fn cf_page ?_ ?_ CPL.out ?_); exact rfl; exact rfl; go_frame)
              | ((with_reducible refine wq_load_cell (by kernel_rfl) C1.out ?_ ?_ ?_); exact rfl; exact rfl; go_frame)
              | ((with_reducible refine wq_load_var pageT CX.out ?_ ?_ ?_); exact rfl; exact rfl; go_frame)
              | ((with_reducible refine wq_neq_arr pageT (s := q) (t := q2) ?_ ?_ ?_ ?_); exact rfl; exact rfl; exact rfl; rw [HZZ.out, Bool.not_false]; go_frame)
              | go_big_quiet_skip | (go_big_quiet_want; go_big_quiet_op; first | go_big_quiet_on | (refine ⟨_, fun _ _ => rfl, ?_⟩; go_big_quiet_on))))
            refine wpQuiet_nil ?_
            intro we te
            have TE := Lib.hid (T3.out.trans te)
            have XE := Lib.hid (te.heap FB.out (by simp))
            have OE := Lib.hid (HOJ.out.kept (t3'.out.trans te) (by simp))
            clear te CX C1 CPL
            have FI := Lib.hid (fillI_two (j : Int) q)
            have O5 := Lib.hid (OE.out.kept ((Tch.refl [] _).alloc (.cells (imageA (j : Int) q) 84)) (by simp))
            have B5 : Hid ((we.alloc (.cells (imageA (j : Int) q) 84)).heap[we.heap.size]? = some (.cells (imageA (j : Int) q) 84)) := heap_alloc_new _ _
            go_wp2_with (first | ((with_reducible apply wc_load_var pageT XE.out); exact rfl; go_frame) | ((with_reducible refine wc_build_img FI.out ?_ ?_); exact rfl; go_frame) | ((with_reducible refine wc_slice_img imgInfo imgsS (n := (j : Int)) (p := q) ?_ ?_); exact rfl; go_frame) | (at_builtin; refine wc_append_img (x := .tmp 40) (y := .tmp 44) imgInfo imgsS (q := ((j : Int), q)) O5.out (by have := TE.out.size; simp; omega) (by have := HLN.out.1; have := HLN.out.2; omega) rfl rfl rfl rfl B5.out ?_; intro v9 w9 ho9 ht9; go_frame; have O9 := Lib.hid ho9; have T9 := Lib.hid (tch_own (TE.out.alloc _) ht9 (fun k hk => (O5.out.lt k hk).1)); clear ho9 ht9))
            go_roundg (2 - (j + 1))
            case measure => (have := HJ2.out; omega)
            case rel =>
              refine ⟨j + 1, ⟨by (have := HJ2.out; omega), by go_num, rfl⟩, ?_, T9.out⟩
              rw [HST.out, if_neg (by rw [HQ.out, HQ2.out]; exact HZ.out), HQ.out]
              exact O9.out
      · have hj3 : j = 2 := by have := HJ.out; omega
        subst hj3
        have ho := HOJ.out
        rw [stateTo_two] at ho
        have HO := Lib.hid ho
        clear ho
        go_wp2_with fail
        go_meet
        exact ⟨HO.out, HTJ.out⟩
  case rest =>
    obtain ⟨ho, ht⟩ := hcut
    obtain ⟨a4, k4, hv4, _⟩ := ho.at_
    obtain ⟨ln, hln⟩ : ∃ ln, P.stateWs.length = ln := ⟨_, rfl⟩
    have hlb : ln ≤ 2 := by rw [← hln, ← stateTo_two]; exact stateTo_len P 2
    rw [hln] at hv4
    subst hv4
    have H2 := Lib.hid (H.out.old ht)
    have HO := Lib.hid ho
    have HT := Lib.hid ht
    have HLN := Lib.hid (And.intro hln hlb)
    have HSUP : Hid (∀ i x, P.over i = some x → 0 ≤ i ∧ i < P.pages) := fun i x h => by have := OKK.out.over i x h; omega
    have HPG : Hid (P.pages ≤ 16384) := by show _ ≤ _; have := OKK.out.p4; omega
    have c5 := H2.out.cM
    have HW0 := Lib.hid ht.size
    clear ho ht hln hlb c2
    go_upto_region 11 with ((with_reducible apply wc_range uMapPage H2.out.hM); exact rfl; intro w3 cnt t3 sz3 hit; go_frame; have HT3 := Lib.hid t3; have HIT := Lib.hid hit; clear t3 hit sz3)
    have hr0 : KeyRel wc Mo wc.heap.size P.over cnt (.slice none 0 0) w3 := ⟨fun _ => none, [], HIT.out, ownInts_nil _ _ _, by simp, by simp, by simp, HT3.out⟩
    have HREL := Lib.hid hr0
    clear hr0 c5
    go_loopg [7] cnt (fun k v wr => KeyRel wc Mo wc.heap.size P.over k v wr)
    case atStart => exact HREL.out
    case round =>
      obtain ⟨f, l, hi, ho, hn, hm, hg, ht⟩ := hrel
      have hl := keys_len1 HSUP.out HPG.out hn hm hg
      have I1 := Lib.hid hi
      have O1 := Lib.hid ho
      have N1 := Lib.hid hn
      have M1 := Lib.hid hm
      have G1 := Lib.hid hg
      have TR := Lib.hid ht
      clear hi ho hn hm hg ht
      go_upto_region 15 with (first | ((with_reducible apply wc_next keyI.inj I1.out); exact rfl; (intro hgf; have HGF := Lib.hid hgf; clear hgf; go_frame); rotate_left; (intro kk v w4 cnt4 hf hg ht hen hlt hit; obtain ⟨s, hs, rfl⟩ := Option.map_eq_some_iff.1 hf; have HS := Lib.hid hs; have HG := Lib.hid hg; have HT := Lib.hid ht; have HEN := Lib.hid hen; have HLT := Lib.hid hlt; have HI := Lib.hid hit; clear hf hs hg ht hen hlt hit; go_frame; (try simp only [kInt])); rotate_left) | ((with_reducible apply wc_entry HEN.out); exact rfl; go_frame; (try simp only [kInt])) | (go_at_call 107; refine (sort2_any _ _ _ _ O1.out (by omega)).mono ?_; rintro e w6 ⟨rfl, hq1, hq2⟩; have HQ1 := Lib.hid hq1; have HQ2 := Lib.hid hq2; clear hq1 hq2) | ((with_reducible apply wc_append_int intsT (own_iterA O1.out I1.out HT.out _) (by have := TR.out.size; have := HT.out.size; simp; omega) (by omega)); exact rfl; exact rfl; exact rfl; exact rfl; exact (World.cell?_alloc_new _ _ _ _).trans rfl; intro v6 w6 ho6 ht6; go_frame; have HO6 := Lib.hid ho6; have HT6 := Lib.hid ht6; clear ho6 ht6))
      · have hgf := map_arr_inj HGF.out
        have hm2 : ∀ k, k ∈ l ↔ (P.over k).isSome = true := by rw [← hgf]; exact M1.out
        obtain ⟨e1, e2⟩ := sorted_keys P.over P.pages HSUP.out l N1.out hm2
        obtain ⟨ia, icap, hv, hI, hIt⟩ := HQ2.out
        rw [e1] at hI
        rw [e2] at hv
        have hK6 : KeysIn w6 wc.heap.size ia P.keys := ⟨hI, fun b o p hb => ⟨(O1.out.lt b (by rw [hv, hb]; simp [Value.ownBlock])).1, hIt b o p hb⟩⟩
        have hT6 : Tch [] wc w6 := tch_own TR.out HQ1.out (fun k hk => (O1.out.lt k hk).1)
        obtain ⟨m, hm⟩ : ∃ m, P.keys.length = m := ⟨_, rfl⟩
        have hmn : m ≤ 3840 := by
          rw [← hm]
          have h1 : P.keys.length ≤ P.pages := by
            unfold PgS.keys
            exact Nat.le_trans (List.length_filter_le _ _) (by simp)
          exact Nat.le_trans h1 OKK.out.p4
        have hv2 : u7 = .slice ia m icap := by rw [hv, ← hm]; rfl
        clear hv
        subst hv2
        have H6 := Lib.hid (H2.out.old hT6)
        have T6 := Lib.hid (HT.out.trans hT6)
        have K6 := Lib.hid hK6
        have HM := Lib.hid hm
        have O6 := Lib.hid (HO.out.kept hT6 (by simp))
        clear HQ1 HQ2 HGF I1 O1 N1 M1 G1 TR HREL HIT HT3 e1 e2 hm2 hgf hI hIt hK6 hT6 hm H2 HO HT
        go_wp2_with fail
        go_loopg [4, 64] m (fun q v i wr => ∃ j, OnAt m i q j ∧ (P.diffT j).1 = 0 ∧ PgAt wr p g d L M V Mo { P with log := (P.diffT j).2.2 } ∧ OwnImgs wr w.heap.size 84 v (P.stateWs ++ (P.diffT j).2.1) ∧ Tch [g] w wr ∧ KeysIn wr wc.heap.size ia P.keys)
        case atStart => exact ⟨0, ⟨Nat.zero_le _, rfl, rfl⟩, rfl, H6.out, by rw [show P.diffT 0 = (0, [], P.log) from rfl, List.append_nil]; exact O6.out, T6.out.mono (by simp), K6.out⟩
        case round =>
          obtain ⟨j, ⟨hj, rfl, rfl⟩, h0, hp, ho, ht, hk⟩ := hrel
          obtain ⟨WS, hWS⟩ : ∃ WS, (P.diffT j).2.1 = WS := ⟨_, rfl⟩
          obtain ⟨S, hS⟩ : ∃ S, (P.diffT j).2.2 = S := ⟨_, rfl⟩
          have hok : S.Ok := by rw [← hS]; exact (PgS.diffs_ok P.over (P.keys.take j) OKK.out.log).1
          have hlen : (P.stateWs ++ WS).length ≤ 3842 := by
            have h1 := PgS.diffs_len P.over (P.keys.take j) P.log
            have h2 : (P.keys.take j).length ≤ m := by rw [List.length_take, HM.out]; omega
            have h3 : WS.length ≤ (P.keys.take j).length := by rw [← hWS]; exact h1
            rw [List.length_append, HLN.out.1]
            have := HLN.out.2
            omega
          rw [hWS] at ho
          rw [hS] at hp
          obtain ⟨LS, hLS⟩ : ∃ LS, P.stateWs ++ WS = LS := ⟨_, rfl⟩
          rw [hLS] at ho hlen
          obtain ⟨a4, k4, hv4, _⟩ := ho.at_
          obtain ⟨ln, hln⟩ : ∃ ln, LS.length = ln := ⟨_, rfl⟩
          rw [hln] at hv4 hlen
          subst hv4
          have HP := Lib.hid hp
          have HOI := Lib.hid ho
          have HTJ := Lib.hid ht
          have HK := Lib.hid hk
          have H0 := Lib.hid h0
          have HLS := Lib.hid (And.intro hLS (And.intro hWS hS))
          have HLL := Lib.hid (And.intro hln hlen)
          have HOK := Lib.hid hok
          have c0 := hp.c0
          have c5 := hp.cM
          have HJ := Lib.hid hj
          clear hp ho ht hk h0 hLS hWS hS hln hlen hok hj H6 O6 T6 K6
          by_cases hjm : j < m
          · obtain ⟨n, hn⟩ : ∃ n, P.keys[j]? = some n := ⟨_, List.getElem?_eq_getElem (by rw [HM.out]; exact hjm)⟩
            obtain ⟨ib, io, hia, hc⟩ := HK.out.1 j n hn
            subst hia
            obtain ⟨y, hy⟩ : ∃ y, P.over n = some y := by
              have : n ∈ P.keys := List.mem_of_getElem? hn
              unfold PgS.keys at this
              exact Option.isSome_iff_exists.1 (List.mem_filter.1 this).2
            have HN := Lib.hid hn
            have HY := Lib.hid hy
            obtain ⟨x, hx⟩ : ∃ x, (S.read n).1.1 = x := ⟨_, rfl⟩
            obtain ⟨er, her⟩ : ∃ er, (S.read n).1.2 = er := ⟨_, rfl⟩
            obtain ⟨S', hS'⟩ : ∃ S', (S.read n).2 = S' := ⟨_, rfl⟩
            have CRD : Hid (Calls Tryz.prog 58 #[.pointer (some ⟨g, 0, none⟩), .int .i64 n] wr fun e w' => e = .returned (.tuple #[.agg (secA x), .int .i64 er]) ∧ PgAt w' p g d L M V Mo { P with log := S' } ∧ Tch [g] wr w') := by
              have h := logRead_any HP.out.log HOK.out n
              rw [hx, her, hS'] at h
              exact h.mono fun e w' ⟨q1, q2, q3⟩ => ⟨q1, HP.out.logged q2 q3 (by have := HP.out.nMo.2.1; simp at this ⊢; exact this.1) (by have := HP.out.nMo.1; simp at this ⊢; exact this.1) (by have := HP.out.nMo.2.2; simp at this ⊢; exact this.1), q3⟩
            have HR := Lib.hid (And.intro hx (And.intro her hS'))
            clear hn hy hx her hS'
            have HGW : Hid (g < w.heap.size) := lt_of_heap H.out.log.hg
            have HX : Hid (∀ z, ((P.over n).map fun x => Value.agg (secA x)).getD z = .agg (secA y)) := fun z => by rw [HY.out]; rfl
            have HST := Lib.hid (P.diffT_step HN.out H0.out)
            by_cases he : er = 0
            · subst he
              go_upto_region 19 with (first | (go_at_call 58; refine CRD.out.mono ?_; rintro e w5 ⟨rfl, q1, q2⟩; have Q1 := Lib.hid q1; have Q2 := Lib.hid q2; clear q1 q2) | ((with_reducible refine wc_alloc_arr pageT ?_); go_frame; (try simp only [World.size_alloc])) | ((with_reducible apply wc_store_new pageT); exact rfl; exact rfl; go_frame))
              have t6 : Tch [] w5 (w5.alloc (.cells (secA x) 54)) := (Tch.refl _ _).alloc _
              have B6 : Hid ((w5.alloc (.cells (secA x) 54)).heap[w5.heap.size]? = some (.cells (secA x) 54)) := heap_alloc_new _ _
              have P6 := Lib.hid (Q1.out.old t6)
              have T6 := Lib.hid ((HTJ.out.trans Q2.out).trans (t6.mono (by simp)))
              have O6 := Lib.hid ((HOI.out.kept Q2.out (fun k hk hm => by have h1 := (HOI.out.lt k (by rw [hk]; simp)).1; have h2 := HGW.out; rw [List.mem_singleton.1 hm] at h1; omega)).kept t6 (by simp))
              have K6 := Lib.hid ((HK.out.touch Q2.out (fun k hk => .inl (by rw [List.mem_singleton.1 hk]; have := HGW.out; have := HW0.out; omega))).touch t6 (by simp))
              clear t6 HP HOI HTJ HK Q1 Q2 c0 c5
              generalize hbx : w5.heap.size = bx at *
              generalize (w5.alloc (.cells (secA x) 54)) = w6 at *
              clear hbx
              have C5 : Hid (∀ w', Tch [] w6 w' → w'.cell? ⟨p, 531, none⟩ = some (.map (some Mo))) := fun w' ht => (P6.out.old ht).cM
              have CMA : Hid (∀ w', Tch [] w6 w' → MapAt kInt w' Mo (fun i => (P.over i).map fun x => Value.agg (secA x))) := fun w' ht => (P6.out.old ht).hM
              have CX : Hid (∀ w', Tch [] w6 w' → w'.heap[bx]? = some (.cells (secA x) 54)) := fun w' ht => ht.heap B6.out (by simp)
              have HS2 : Hid (P.diffT (j + 1) = (0, WS ++ (if x ≠ y then [(n, y)] else []), S')) := by
                show _ = _
                rw [HST.out, HLS.out.2.1, HLS.out.2.2, HR.out.1, HR.out.2.1, HR.out.2.2, HY.out, if_neg (by simp)]
                rfl
              go_upto_region 21 with fail
              by_cases hz : x = y
              · have HZZ : Hid (decide (x = y) = true) := decide_eq_true hz
                have HZ := Lib.hid hz
                clear hz
                refine wp_region_walk (C := fun w' => Tch [] w6 w') 8 (by kernel_rfl) (by kernel_rfl) ((Tch.refl _ _).drew) ?_
                simp only [List.take_succ_cons, List.take_zero, List.drop_succ_cons, List.drop_nil]
                (repeat (first
                  | ((with_reducible refine wq_load_cell (by kernel_rfl) C5.out ?_ ?_ ?_); exact rfl; exact rfl; go_frame)
                  | ((with_reducible refine wq_load_var pageT CX.out ?_ ?_ ?_); exact rfl; exact rfl; go_frame)
                  | (refine wq_lookup1 keyI uMapPage (fun w => pageT.zero w) CMA.out ?_ ?_ (kk := n) ?_ ?_; exact rfl; exact rfl; exact rfl; simp only [HX.out]; go_frame)
                  | ((with_reducible refine wq_neq_arr pageT (s := x) (t := y) ?_ ?_ ?_ ?_); exact rfl; exact rfl; exact rfl; rw [HZZ.out]; go_frame)
                  | go_big_quiet_skip | (go_big_quiet_want; go_big_quiet_op; first | go_big_quiet_on | (refine ⟨_, fun _ _ => rfl, ?_⟩; go_big_quiet_on))))
                refine wpQuiet_nil ?_
                intro we te
                have TE := Lib.hid (T6.out.trans (te.mono (by simp)))
                have PE := Lib.hid (P6.out.old te)
                have OE := Lib.hid (O6.out.kept te (by simp))
                have KE := Lib.hid (K6.out.touch te (by simp))
                clear te CX CMA C5 P6 O6 K6 T6
                go_wp2_with fail
                go_roundg (m - (j + 1))
                case measure => omega
                case rel =>
                  have e2 := HS2.out
                  rw [if_neg (by simp [HZ.out]), List.append_nil] at e2
                  refine ⟨j + 1, ⟨by omega, by go_num, rfl⟩, ?_, ?_, ?_, TE.out, KE.out⟩
                  · rw [e2]
                  · rw [e2]; exact PE.out
                  · rw [e2, HLS.out.1]; exact OE.out
              · have HZZ : Hid (decide (x = y) = false) := decide_eq_false hz
                have HZ := Lib.hid hz
                clear hz
                refine wp_region_walk (C := fun w' => Tch [] w6 w') 8 (by kernel_rfl) (by kernel_rfl) ((Tch.refl _ _).drew) ?_
                simp only [List.take_succ_cons, List.take_zero, List.drop_succ_cons, List.drop_nil]
                (repeat (first
                  | ((with_reducible refine wq_load_cell (by kernel_rfl) C5.out ?_ ?_ ?_); exact rfl; exact rfl; go_frame)
                  | ((with_reducible refine wq_load_var pageT CX.out ?_ ?_ ?_); exact rfl; exact rfl; go_frame)
                  | (refine wq_lookup1 keyI uMapPage (fun w => pageT.zero w) CMA.out ?_ ?_ (kk := n) ?_ ?_; exact rfl; exact rfl; exact rfl; simp only [HX.out]; go_frame)
                  | ((with_reducible refine wq_neq_arr pageT (s := x) (t := y) ?_ ?_ ?_ ?_); exact rfl; exact rfl; exact rfl; rw [HZZ.out, Bool.not_false]; go_frame)
                  | go_big_quiet_skip | (go_big_quiet_want; go_big_quiet_op; first | go_big_quiet_on | (refine ⟨_, fun _ _ => rfl, ?_⟩; go_big_quiet_on))))
                refine wpQuiet_nil ?_
                intro we te
                have TE := Lib.hid (T6.out.trans (te.mono (by simp)))
                have PE := Lib.hid (P6.out.old te)
                have OE := Lib.hid (O6.out.kept te (by simp))
                have KE := Lib.hid (K6.out.touch te (by simp))
                clear te CX CMA C5 P6 O6 K6 T6
                have FI := Lib.hid (fillI_two n y)
                have c5 := PE.out.cM
                have hW6 := TE.out.size
                have O5 := Lib.hid (OE.out.kept ((Tch.refl [] _).alloc (.cells (imageA n y) 84)) (by simp))
                have B5 : Hid ((we.alloc (.cells (imageA n y) 84)).heap[we.heap.size]? = some (.cells (imageA n y) 84)) := heap_alloc_new _ _
                go_wp2_with (first | ((with_reducible refine wc_lookup1 keyI uMapPage (pageT.zero _) PE.out.hM (kk := n) ?_ ?_ ?_); exact rfl; exact rfl; simp only [HX.out]; go_frame) | ((with_reducible refine wc_build_img FI.out ?_ ?_); exact rfl; go_frame) | ((with_reducible refine wc_slice_img imgInfo imgsS (n := n) (p := y) ?_ ?_); exact rfl; go_frame) | (at_builtin; refine wc_append_img (x := .tmp 88) (y := .tmp 97) imgInfo imgsS (q := (n, y)) O5.out (by simp; omega) (by have := HLL.out.1; have := HLL.out.2; omega) rfl rfl rfl rfl B5.out ?_; intro v9 w9 ho9 ht9; go_frame; have O9 := Lib.hid ho9; have T9 := Lib.hid ht9; clear ho9 ht9))
                go_roundg (m - (j + 1))
                case measure => omega
                case rel =>
                  have e2 := HS2.out
                  rw [if_pos HZ.out] at e2
                  have ty := ownImgs_type O5.out
                  have lt5 := O5.out.lt
                  have ta : Tch [] we (we.alloc (.cells (imageA n y) 84)) := (Tch.refl _ _).alloc _
                  refine ⟨j + 1, ⟨by omega, by go_num, rfl⟩, ?_, ?_, ?_, ?_, ?_⟩
                  · rw [e2]
                  · rw [e2]
                    refine (PE.out.old ta).touch T9.out fun k hk hm => ?_
                    have h1 := (lt5 k hm).1
                    have h2 := H.out.lt k hk
                    omega
                  · rw [e2, ← List.append_assoc, HLS.out.1]; exact O9.out
                  · refine (((TE.out.trans (ta.mono (by simp))).mono (S' := g :: (Value.slice a4 ln k4).ownBlock.toList) (fun k hk => by rw [List.mem_singleton.1 hk]; exact List.mem_cons_self)).trans (T9.out.mono (fun k hk => List.mem_cons_of_mem _ hk))).drop fun k hk => ?_
                    rcases List.mem_cons.1 hk with e | e
                    · exact .inl (by simp [e])
                    · exact .inr (lt5 k e).1
                  · exact (KE.out.touch ta (by simp)).touch T9.out fun k hk => .inr (ty k hk)
            · have hee : ((er : Int) != 0) = true := by simpa using he
              have HE := Lib.hid he
              clear he
              go_upto_region 19 with (first | (go_at_call 58; refine CRD.out.mono ?_; rintro e w5 ⟨rfl, q1, q2⟩; have Q1 := Lib.hid q1; have Q2 := Lib.hid q2; clear q1 q2) | ((with_reducible refine wc_alloc_arr pageT ?_); go_frame; (try simp only [World.size_alloc])) | ((with_reducible apply wc_store_new pageT); exact rfl; exact rfl; go_frame))
              have t6 : Tch [] w5 (w5.alloc (.cells (secA x) 54)) := (Tch.refl _ _).alloc _
              have B6 : Hid ((w5.alloc (.cells (secA x) 54)).heap[w5.heap.size]? = some (.cells (secA x) 54)) := heap_alloc_new _ _
              have P6 := Lib.hid (Q1.out.old t6)
              have T6 := Lib.hid ((HTJ.out.trans Q2.out).trans (t6.mono (by simp)))
              have O6 := Lib.hid ((HOI.out.kept Q2.out (fun k hk hm => by have h1 := (HOI.out.lt k (by rw [hk]; simp)).1; have h2 := HGW.out; rw [List.mem_singleton.1 hm] at h1; omega)).kept t6 (by simp))
              have K6 := Lib.hid ((HK.out.touch Q2.out (fun k hk => .inl (by rw [List.mem_singleton.1 hk]; have := HGW.out; have := HW0.out; omega))).touch t6 (by simp))
              clear t6 HP HOI HTJ HK Q1 Q2 c0 c5
              generalize hbx : w5.heap.size = bx at *
              generalize (w5.alloc (.cells (secA x) 54)) = w6 at *
              clear hbx
              go_wp2_with fail
              go_ret2
              have e := P.changed_bad HN.out H0.out (by rw [HLS.out.2.2, HR.out.2.1]; exact HE.out)
              rw [HLS.out.2.2, HR.out.2.1, HR.out.2.2] at e
              unfold ChangedOut
              rw [e]
              exact ⟨T6.out, P6.out, _, rfl, ownImgs_nil _ _ _⟩
          · have hjm' : j = m := by have := HJ.out; omega
            subst hjm'
            go_wp2_with fail
            go_ret2
            have e := P.changed_good (by rw [HM.out]; exact H0.out)
            rw [HM.out, HLS.out.2.1, HLS.out.2.2, HLS.out.1] at e
            unfold ChangedOut
            rw [e]
            exact ⟨HTJ.out, HP.out, _, rfl, HOI.out⟩
      · go_roundg cnt4
        case measure => exact HLT.out
        case rel => exact KeyRel.next I1.out O1.out N1.out M1.out G1.out TR.out (Nat.le_refl _) HS.out HG.out HT.out HI.out _ HO6.out HT6.out
end Go.Proofs.YtkjgbhpnlgcinaaGreatDoor
/-
  Package page's Changed and Commit.
-/
namespace Go.Cib
open Go Go.RowKit
namespace LogS
theorem checkpoint_is (S : LogS) : S.checkpoint.2.pages = S.pages ∧ S.checkpoint.2.log = S.log ∧ (S.checkpoint.1 = 0 → S.checkpoint.2.used = 0) := by
  unfold LogS.checkpoint
  split
  · exact ⟨rfl, rfl, fun h => by cases h⟩
  split
  · rename_i h; exact ⟨rfl, rfl, fun _ => h⟩
  split
  · rename_i h; exact ⟨rfl, rfl, fun h2 => absurd h2 h⟩
  split
  · rename_i h; exact ⟨rfl, rfl, fun h2 => absurd h2 h⟩
  · exact ⟨rfl, rfl, fun _ => rfl⟩
theorem Ok.write {S : LogS} (h : S.Ok) {ws : List (Nat × Page)} (hu : S.used + ws.length + 2 ≤ S.log) (hw : ∀ q ∈ ws, q.1 < S.pages) : (S.write ws).2.Ok ∧ (S.write ws).2.pages = S.pages := by
  unfold LogS.write
  have hd : ({ S with disk := (S.disk.acts (S.writeAs ws)).2 } : LogS).Ok := h.disk (DiskS.length_acts _ _)
  split
  · exact ⟨hd.dead _, rfl⟩
  · exact ⟨hd.took hu hw, rfl⟩
theorem commit_ok {S : LogS} (h : S.Ok) (w : List (Int × Page)) : (S.commit w).2.Ok ∧ (S.commit w).2.pages = S.pages := by
  have hlen : (nats w).length = w.length := by unfold nats; simp
  unfold LogS.commit
  split
  · exact ⟨h, rfl⟩
  rename_i hm
  have hm : S.may w = 0 := by simpa using hm
  obtain ⟨_, k2, k3, k4, k5⟩ := nats_cast hm
  split
  · exact ⟨h, rfl⟩
  split
  · exact ⟨h, rfl⟩
  obtain ⟨c1, c2, c3⟩ := S.checkpoint_is
  split
  · split
    · exact ⟨h.checkpoint, c1⟩
    · rename_i hc
      have hc : S.checkpoint.1 = 0 := by simpa using hc
      have := h.checkpoint.write (ws := nats w) (by rw [c3 hc, c2]; omega) (by rw [c1]; exact k2)
      exact ⟨this.1, this.2.trans c1⟩
  · exact h.write (by omega) k2
end LogS
theorem PgS.Ok.commit {P : PgS} (h : P.Ok) : P.commit.2.Ok := by
  have h1 := h.changed
  have h2 := h1.1
  unfold PgS.commit
  split
  · exact h2
  have hc := LogS.commit_ok h2.log P.changed.2.1
  split
  · exact h2.logged hc.1 hc.2
  · have h3 := h2.logged hc.1 hc.2
    have hp : P.changed.2.2.pages = P.pages := by unfold PgS.changed; split <;> rfl
    exact ⟨h3.log, h3.same, h3.p3, h3.p4, fun i x hx => (by cases hx), h3.now, fun n hn => h.now n (by rw [← hp]; exact hn), h3.roots, h.roots⟩
end Go.Cib
namespace Go.Proofs.YtkjgbhpnlgcinaaGreatDoor
open Go.RowKit Go.Cib
theorem pchanged_any {w : World} {p g d L M V Mo : Nat} {P : PgS} (h : PgAt w p g d L M V Mo P) (ok : P.Ok) :
    Calls Tryz.prog 25 #[.pointer (some ⟨p, 0, none⟩)] w fun e w' => e = .returned (.tuple #[.int .i64 P.changed.2.1.length, .int .i64 P.changed.1]) ∧ PgAt w' p g d L M V Mo P.changed.2.2 ∧ Tch [g] w w' := pchanged_of (pchangedIn_any h ok)
theorem pcommit_any {w : World} {p g d L M V Mo : Nat} {P : PgS} (h : PgAt w p g d L M V Mo P) (ok : P.Ok) :
    Calls Tryz.prog 18 #[.pointer (some ⟨p, 0, none⟩)] w fun e w' => e = .returned (.int .i64 P.commit.1) ∧ PgAt w' p g d L M V Mo P.commit.2 ∧ Tch [p, g, d, L, M, V, Mo] w w' :=
  pcommit_of (blocks_lt h.log) ok.changed.1.log (by have := PgS.changed_len ok; omega) ok.changed.2 (pchangedIn_any h ok)
end Go.Proofs.YtkjgbhpnlgcinaaGreatDoor
/-
  Pages on a new disk: the walk of ciboriumlaw09.made.
-/
namespace Go.Cib
open Go Go.RowKit
namespace PgS
/-- Pages of a log that was made just now. -/
structure New (P : PgS) (base : Nat → Page) (k h : Nat) : Prop where
  snd : P.Snd base
  pages : P.pages = h
  log : P.log.log = k
  gen : P.log.gen ≤ 2
  armed : P.log.disk.armed = 0
  now : P.now = fresh
  last : P.last = fresh
  over : P.over = fun _ => none
  zero : ∀ n, 2 ≤ n → base n = Arr.zero
theorem make_ok {S : LogS} (h : S.Ok) : (make S).2.Ok ∧ (make S).2.pages = S.pages := by
  unfold make
  split
  · exact ⟨h, rfl⟩
  · exact LogS.commit_ok h _
theorem made_plain {k h : Nat} (f : BegunP.Fits k h) (h3 : 3 ≤ h) (h4 : h ≤ 3840) (k4 : 4 ≤ k) : (make (BegunP.S1 k h)).1 = 0 ∧ ∃ base P, opens (make (BegunP.S1 k h)).2 = (0, some P, P.log) ∧ New P base k h := by
  have hs := BegunP.sound1 f
  obtain ⟨base, a1, a2, a3, a4, a5, a6, a7, a8, a9⟩ := make_sound hs (show 1 + 1 < 18446744073709551616 by decide) h3 k4 (BegunP.armed1 f)
  have e7 : (make (BegunP.S1 k h)).2.pages = h := a7
  obtain ⟨b1, b2⟩ := opens_sound (s := fresh) a2 (by rw [e7]; exact h3) (by rw [e7]; exact h4) (StS.good_fresh (by rw [e7]; omega)) a3 (by rw [e7]; exact a4)
  exact ⟨a1, base, _, b1, b2, e7, a6, a8, a9, rfl, rfl, rfl, a5⟩
end PgS
end Go.Cib
namespace Go.Proofs.YtkjgbhpnlgcinaaGreatDoor
open Go.RowKit Go.Cib
open BegunP
theorem Tab.pos {w : World} (h : Tab w) : 0 < w.heap.size := block_lt_of_cell (h 0 0 rfl)
set_option maxHeartbeats 1000000 in
theorem made_any (w : World) {k h : Nat} (f : Fits k h) (h3 : 3 ≤ h) (h4 : h ≤ 3840) (k4 : 4 ≤ k) (tab : Tab w) : Calls Tryz.prog 9 #[.agg #[.int .i64 ((2 + k + h : Nat) : Int), .int .i64 k]] w fun e w' =>
    ∃ p g d L M V Mo P base, e = .returned (.tuple #[.pointer (some ⟨d, 0, none⟩), .pointer (some ⟨p, 0, none⟩)]) ∧ PgAt w' p g d L M V Mo P ∧ PgS.New P base k h ∧ Tch [] w w' ∧ ∀ x ∈ pgB p g d L M V Mo, w.heap.size ≤ x := by
  obtain ⟨f1, f2, f3, f4⟩ := id f
  obtain ⟨m1, base, P, m2, m3⟩ := PgS.made_plain f h3 h4 k4
  have M1 := Lib.hid m1
  have M2 := Lib.hid m2
  have M3 := Lib.hid m3
  have TAB := Lib.hid tab
  have POS := Lib.hid tab.pos
  clear m1 m2 m3 tab
  obtain ⟨n, hn⟩ : ∃ n : Int, ((2 + k + h : Nat) : Int) = n := ⟨_, rfl⟩
  go_enter Tryz.func9, Tryz.ntmps9
  rw [hn]
  have t0 : Tch [] w (w.alloc (.cells #[.int .i64 n, .int .i64 k] 28)) := (Tch.refl _ _).alloc _
  have c0 : (w.alloc (.cells #[.int .i64 n, .int .i64 k] 28)).cell? ⟨w.heap.size, 0, none⟩ = some (.int .i64 n) := by simp
  have c1 : (w.alloc (.cells #[.int .i64 n, .int .i64 k] 28)).cell? ⟨w.heap.size, 1, none⟩ = some (.int .i64 k) := by simp
  have T0 := Lib.hid t0
  clear t0
  go_upto_region 1 with fail
  generalize w.alloc (.cells #[.int .i64 n, .int .i64 k] 28) = w1 at *
  have Z0 : Hid (w.heap.size ≤ w1.heap.size) := T0.out.size
  have S6P : Hid (∀ wx, Tch [] w wx → w.heap.size ≤ wx.heap.size) := fun wx h => h.size
  go_wp2_with fail
  rw [← hn]
  refine (new_any w1 (2 + k + h) (by omega) (by omega)).mono ?_
  rintro e w3 ⟨d, L, M, rfl, h3, t3, n1, n2, n3⟩
  have H3 : Hid (DiskAt w3 d L M (D0 k h)) := h3
  have T3 := Lib.hid (T0.out.trans t3)
  have N1 := Lib.hid (Nat.le_trans Z0.out n1)
  have N2 := Lib.hid (Nat.le_trans Z0.out n2)
  have N3 := Lib.hid (Nat.le_trans Z0.out n3)
  have c2 := cell_old t3 c1
  clear h3 t3 n1 n2 n3 c0 c1 hn T0
  go_wp2_with fail
  refine (format_any H3.out (k : Int)).mono ?_
  rintro e w4 ⟨rfl, h4, t4⟩
  rw [(fmt f).1]
  have H4 : Hid (DiskAt w4 d L M (D1 k h)) := h4
  have T4 := Lib.hid (tch_own T3.out t4 (fun k hk => by
    have a := N1.out; have b := N2.out; have c := N3.out
    simp only [List.mem_cons, List.not_mem_nil, or_false] at hk
    rcases hk with e | e | e <;> rw [e] <;> assumption))
  clear h4 t4 H3 T3
  go_wp2_with fail
  refine (open_ok H4.out (open1 f)).mono ?_
  rintro e w5 ⟨g, V, rfl, h5, o5, t5, g5, v5⟩
  have H5 := Lib.hid h5
  have O5 := Lib.hid o5
  have T5 := Lib.hid (tch_own T4.out t5 (fun k hk => by
    have a := N1.out; have b := N2.out; have c := N3.out
    simp only [List.mem_cons, List.not_mem_nil, or_false] at hk
    rcases hk with e | e | e <;> rw [e] <;> assumption))
  have G5 := Lib.hid (Nat.le_trans T4.out.size g5)
  have V5 := Lib.hid (Nat.le_trans T4.out.size v5)
  clear h5 o5 t5 g5 v5 H4 T4 c2
  go_wp2_with fail
  refine (make_any H5.out O5.out (show h ≤ 3840 from h4)).mono ?_
  rintro e w6 ⟨rfl, h6, t6⟩
  rw [M1.out]
  have H6 := Lib.hid h6
  have OWN : Hid (∀ x ∈ [g, d, L, M, V], w.heap.size ≤ x) := by
    intro x hx
    simp only [List.mem_cons, List.not_mem_nil, or_false] at hx
    have a1 := G5.out; have a2 := N1.out; have a3 := N2.out; have a4 := N3.out; have a5 := V5.out
    have z := Z0.out
    rcases hx with rfl | rfl | rfl | rfl | rfl <;> omega
  have T6 := Lib.hid (tch_own T5.out t6 OWN.out)
  clear h6 t6 H5 T5
  go_wp2_with fail
  have eP : PgS.opens (PgS.make (S1 k h)).2 = (0, some P, P.log) := M2.out
  have hpg : (PgS.make (S1 k h)).2.pages ≤ 3840 := by
    have := PgS.make_ok O5.out
    rw [this.2]
    exact h4
  refine (popen_any H6.out (PgS.make_ok O5.out).1 hpg (TAB.out.touch T6.out (by simp)) (fun hm => by have := OWN.out 0 hm; have := POS.out; omega)).mono ?_
  intro e w7 hq
  unfold OpenPg at hq
  rw [eP] at hq
  obtain ⟨t7, ⟨hq, _⟩ | ⟨P', p, Mo, hq, rfl, _, hp, _, hp1, hp2⟩⟩ := hq
  · cases hq
  cases hq
  have HP := Lib.hid hp
  have SZ := Lib.hid (And.intro hp1 hp2)
  have T7 := Lib.hid (tch_own T6.out t7 (by have a := OWN.out g (by simp); simpa using a))
  have S6 := Lib.hid (S6P.out _ T6.out)
  clear hp t7 hp1 hp2 eP hpg T6 H6
  go_wp2_with fail
  go_ret2
  refine ⟨p, g, d, L, M, V, Mo, P, base, rfl, HP.out, M3.out, T7.out, fun x hx => ?_⟩
  have s1 := SZ.out.1
  have s2 := SZ.out.2
  have s3 := S6.out
  simp only [List.mem_cons, List.not_mem_nil, or_false] at hx
  have s4 : ∀ y ∈ [g, d, L, M, V], w.heap.size ≤ y := OWN.out
  rcases hx with e | e | e | e | e | e | e
  · rw [e]; omega
  · exact s4 x (by rw [e]; simp)
  · exact s4 x (by rw [e]; simp)
  · exact s4 x (by rw [e]; simp)
  · exact s4 x (by rw [e]; simp)
  · exact s4 x (by rw [e]; simp)
  · rw [e]; omega
end Go.Proofs.YtkjgbhpnlgcinaaGreatDoor
/-
  Pages over a log that is sound: what is done to them keeps that; and the chain of ciboriumlaw09.works; plain.
-/
namespace Go.Cib
open Go Go.RowKit
namespace PgS
variable {P : PgS} {base : Nat → Page}
theorem Snd.put (h : P.Snd base) (n : Int) (x : Page) : (P.put n x).2.Snd base := by
  have ok := h.ok.put n x
  unfold PgS.put at ok ⊢
  by_cases hm : P.may n ≠ 0
  · rw [if_pos hm]; exact h
  · rw [if_neg hm] at ok ⊢
    exact ⟨ok, h.log, h.b0, h.b1, h.good, h.goodl⟩
theorem Snd.take (h : P.Snd base) : P.take.2.Snd base := by
  have ok := h.ok.take h.good.t0 h.good.t1
  obtain ⟨m, hm1, hm2, hm3, hm4⟩ := P.now.first_spec P.pages (h.ok.now _ (Nat.le_refl _))
  unfold PgS.take at ok ⊢
  rw [hm4] at ok ⊢
  by_cases hmp : m < P.pages
  · rw [if_pos hmp] at ok ⊢
    exact ⟨ok, h.log, h.b0, h.b1, h.good.set hmp true fun e => (by cases e), h.goodl⟩
  · rw [if_neg hmp]; exact h
theorem not_root {n : Int} (hr : P.isRoot n = false) : ∀ i, i < 8 → (P.now.roots i : Int) ≠ n := by
  intro i hi e
  unfold isRoot at hr
  rw [List.any_eq_false] at hr
  exact hr i (List.mem_range.2 hi) (by simpa using e)
theorem Snd.give (h : P.Snd base) (n : Int) : (P.give n).2.Snd base := by
  have ok := h.ok.give n
  unfold PgS.give at ok ⊢
  by_cases hm : P.may n ≠ 0
  · rw [if_pos hm]; exact h
  · rw [if_neg hm] at ok ⊢
    by_cases hr : P.isRoot n = true
    · rw [if_pos hr]; exact h
    · rw [if_neg hr] at ok ⊢
      have hm0 : P.may n = 0 := by simpa using hm
      obtain ⟨h1, h2, _⟩ := may_zero hm0
      exact ⟨ok, h.log, h.b0, h.b1, h.good.set (by omega) false fun _ => ⟨by omega, fun i hi e => not_root (n := n) (by simpa using hr) i hi (by omega)⟩, h.goodl⟩
theorem Snd.setRoot (h : P.Snd base) (i n : Int) : (P.setRoot i n).2.Snd base := by
  have ok := h.ok.setRoot i n
  unfold PgS.setRoot at ok ⊢
  by_cases h1 : i < 0 ∨ 8 ≤ i
  · rw [if_pos h1]; exact h
  rw [if_neg h1] at ok ⊢
  by_cases h2 : n ≠ 0 ∧ P.may n ≠ 0
  · rw [if_pos h2]; exact h
  rw [if_neg h2] at ok ⊢
  refine ⟨ok, h.log, h.b0, h.b1, h.good.setRoot (by omega) ?_, h.goodl⟩
  by_cases hz : n = 0
  · exact .inl (by rw [hz]; rfl)
  · have hm : P.may n = 0 := Classical.byContradiction fun hq => h2 ⟨hz, hq⟩
    obtain ⟨a, b, c⟩ := may_zero hm
    exact .inr ⟨by omega, by omega, c⟩
theorem Snd.rollback (h : P.Snd base) : P.rollback.Snd base := ⟨h.ok.rollback, h.log, h.b0, h.b1, h.goodl, h.goodl⟩
/-- The pages behind a Commit, all opened anew. -/
theorem Snd.reopen (h : P.Snd base) (hg : P.log.gen + 1 < 18446744073709551616) (ha : P.log.disk.armed = 0) : ∃ T, LogS.opens P.log.disk = (0, some T, T.disk) ∧ T.pages = P.pages ∧ T.log = P.log.log ∧ T.gen ≤ P.log.gen + 1 ∧ T.disk.armed = 0 ∧ opens T = (0, some ⟨T, P.pages, P.last, P.last, fun _ => none⟩, T) ∧ (⟨T, P.pages, P.last, P.last, fun _ => none⟩ : PgS).Snd base := by
  have hf : LogS.Found true P.log.log P.log.pages P.log.gen P.log.disk base := ⟨P.log, rfl, h.log, rfl, rfl, Nat.le_refl _⟩
  have hsame := h.ok.same
  rcases hf.opens hg with ⟨T, t1, t2, t3, t4, t5, t6⟩ | ⟨E, _, e2, _⟩
  · have e : T.pages = P.pages := t4.trans hsame
    have := opens_sound (s := P.last) t2 (by rw [e]; exact h.ok.p3) (by rw [e]; exact h.ok.p4) (by rw [e]; exact h.goodl) h.b0 (by rw [e]; exact h.b1)
    rw [e] at this
    exact ⟨T, t1, e, t3, t5, t6 ha, this.1, this.2⟩
  · exact absurd ha e2
theorem works_plain (h : New P base 6 5) (x : Page) : P.now.free P.pages = 3 ∧ ∃ P1 P2 P3 P4 T P5, P.take = ((2, 0), P1) ∧ P1.Ok ∧ P1.put 2 x = (0, P2) ∧ P2.Ok ∧ P2.setRoot 3 2 = (0, P3) ∧ P3.Ok ∧ P3.commit = (0, P4) ∧ P4.Ok ∧ LogS.opens P4.log.disk = (0, some T, T.disk) ∧ T.Ok ∧ T.pages = 5 ∧ opens T = (0, some P5, T) ∧ P5.Ok ∧ P5.get 2 = ((x, 0), P5) ∧ P5.root 3 = (2, 0) ∧ P5.now.free P5.pages = 2 := by
  obtain ⟨hs, hpg, hlg, hgn, har, hnow, hlast, hov, hz⟩ := h
  have f1 : PgS.fresh.first 5 = some 2 := rfl
  have e1 : P.take = ((2, 0), { P with now := PgS.fresh.set 2 true, over := fun j => if j = 2 then some Arr.zero else none }) := by
    unfold PgS.take
    rw [hnow, hpg, f1, hov]
    rfl
  have s1 := hs.take
  rw [e1] at s1
  obtain ⟨P1, hP1⟩ : ∃ P1 : PgS, { P with now := PgS.fresh.set 2 true, over := fun j => if j = 2 then some Arr.zero else none } = P1 := ⟨_, rfl⟩
  rw [hP1] at e1 s1
  have q1 : P1.now = PgS.fresh.set 2 true := by rw [← hP1]
  have q2 : P1.over = fun j => if j = 2 then some Arr.zero else none := by rw [← hP1]
  have q3 : P1.pages = 5 := by rw [← hP1]; exact hpg
  have q4 : P1.log = P.log := by rw [← hP1]
  have m1 : P1.may 2 = 0 := by unfold PgS.may; rw [q3, q1]; rfl
  have e2 : P1.put 2 x = (0, { P1 with over := fun j => if j = 2 then some x else P1.over j }) := by
    unfold PgS.put
    rw [if_neg (by rw [m1]; decide)]
  have s2 := s1.put 2 x
  rw [e2] at s2
  obtain ⟨P2, hP2⟩ : ∃ P2 : PgS, { P1 with over := fun j => if j = 2 then some x else P1.over j } = P2 := ⟨_, rfl⟩
  rw [hP2] at e2 s2
  have r1 : P2.now = PgS.fresh.set 2 true := by rw [← hP2]; exact q1
  have r2 : P2.over = fun j => if j = 2 then some x else if j = 2 then some Arr.zero else none := by rw [← hP2]; simp only [q2]
  have r3 : P2.pages = 5 := by rw [← hP2]; exact q3
  have r4 : P2.log = P.log := by rw [← hP2]; exact q4
  have m2 : P2.may 2 = 0 := by unfold PgS.may; rw [r3, r1]; rfl
  have e3 : P2.setRoot 3 2 = (0, { P2 with now := P2.now.setRoot 3 2 }) := by
    unfold PgS.setRoot
    rw [if_neg (by decide), if_neg (by rw [m2]; simp)]
    rfl
  have s3 := s2.setRoot 3 2
  rw [e3] at s3
  obtain ⟨P3, hP3⟩ : ∃ P3 : PgS, { P2 with now := P2.now.setRoot 3 2 } = P3 := ⟨_, rfl⟩
  rw [hP3] at e3 s3
  have s3 : P3.Snd base := s3
  have u1 : P3.now = (PgS.fresh.set 2 true).setRoot 3 2 := by rw [← hP3, ← r1]
  have u2 : P3.over = fun j => if j = 2 then some x else if j = 2 then some Arr.zero else none := by rw [← hP3]; exact r2
  have u3 : P3.pages = 5 := by rw [← hP3]; exact r3
  have u4 : P3.log = P.log := by rw [← hP3]; exact r4
  have hk : P3.keys = [2] := by unfold PgS.keys; rw [u3, u2]; rfl
  have hl : (P3.ws base).length ≤ 3 := by
    unfold ws
    rw [List.length_append, hk]
    have h1 : P3.stateWs.length ≤ 2 := by
      unfold stateWs
      rw [List.length_append]
      split <;> split <;> simp
    have h2 : (putWs base P3.over [2]).length ≤ 1 := by
      unfold putWs
      rw [List.flatMap_cons, List.flatMap_nil, List.append_nil]
      split <;> simp
    omega
  rcases s3.commit (by rw [u4]; omega) (by omega) (by rw [u4, hlg]; omega) with ⟨c1, c2, c3, c4, c5, c6, c7, c8, c9⟩ | ⟨_, _, c3, _⟩
  · obtain ⟨P4, hP4⟩ : ∃ P4, P3.commit.2 = P4 := ⟨_, rfl⟩
    rw [hP4] at c2 c3 c4 c5 c6 c7 c8 c9
    have e4 : P3.commit = (0, P4) := Prod.ext c1 hP4
    obtain ⟨T, t1, t2, t3, t4, t5, t6, t7⟩ := c2.reopen (by rw [u4] at c8; omega) (c9 (by rw [u4]; exact har))
    have p4 : P4.pages = 5 := c6.trans u3
    have gT : (⟨T, P4.pages, P4.last, P4.last, fun _ => none⟩ : PgS).get 2 = ((x, 0), ⟨T, P4.pages, P4.last, P4.last, fun _ => none⟩) := by
      have := t7.get 2
      have hm : (⟨T, P4.pages, P4.last, P4.last, fun _ => none⟩ : PgS).may ((2 : Nat) : Int) = 0 := by
        unfold PgS.may; rw [p4, c4, u1]; rfl
      rw [if_pos hm] at this
      have hc : (⟨T, P4.pages, P4.last, P4.last, fun _ => none⟩ : PgS).cur (P3.next base) 2 = x := by
        show P3.next base 2 = x
        unfold PgS.next
        rw [if_neg (by decide), if_neg (by decide)]
        unfold PgS.cur
        rw [u2]
        rfl
      rw [hc] at this
      exact this
    refine ⟨by rw [hnow, hpg]; rfl, P1, P2, P3, P4, T, _, e1, s1.ok, e2, s2.ok, e3, s3.ok, e4, c2.ok, t1, t7.log.ok, t2.trans p4, t6, t7.ok, gT, ?_, ?_⟩
    · show PgS.root ⟨T, P4.pages, P4.last, P4.last, fun _ => none⟩ 3 = (2, 0)
      unfold PgS.root
      rw [if_neg (by decide)]
      simp only [c4, u1]
      rfl
    · show P4.last.free P4.pages = 2
      rw [c4, u1, p4]; rfl
  · exact absurd (by rw [u4]; exact har) c3
end PgS
end Go.Cib
/-
  The pages' works: the walk of ciboriumlaw09.works.
-/
namespace Go.Proofs.YtkjgbhpnlgcinaaGreatDoor
open Go.RowKit Go.Cib
open BegunP
theorem made13 (w : World) (tab : Tab w) : Calls Tryz.prog 9 #[.agg #[.int .i64 13, .int .i64 6]] w fun e w' =>
    ∃ p g d L M V Mo P base, e = .returned (.tuple #[.pointer (some ⟨d, 0, none⟩), .pointer (some ⟨p, 0, none⟩)]) ∧ PgAt w' p g d L M V Mo P ∧ PgS.New P base 6 5 ∧ Tch [] w w' ∧ ∀ x ∈ pgB p g d L M V Mo, w.heap.size ≤ x :=
  made_any w (k := 6) (h := 5) ⟨by decide, by decide, by decide, by decide⟩ (by decide) (by decide) (by decide) tab
/-- The log, and then the pages, are opened anew. -/
theorem reopen_any {w : World} {d L M : Nat} {D : DiskS} {T : LogS} {P : PgS} (h : DiskAt w d L M D) (ho : LogS.opens D = (0, some T, T.disk)) (hp : PgS.opens T = (0, some P, T)) (hT : T.pages ≤ 3840) (tab : Tab w) (nz : 0 ∉ [d, L, M]) :
    Calls Tryz.prog 37 #[.pointer (some ⟨d, 0, none⟩)] w fun e w' => ∃ g V, e = .returned (.tuple #[.pointer (some ⟨g, 0, none⟩), .int .i64 0]) ∧ Tch [d, L, M] w w' ∧ w.heap.size ≤ g ∧ w.heap.size ≤ V ∧ LogAt w' g d L M V T ∧
      ∀ w2, LogAt w2 g d L M V T → Tch [] w' w2 → Calls Tryz.prog 22 #[.pointer (some ⟨g, 0, none⟩)] w2 fun e w3 => ∃ p Mo, e = .returned (.tuple #[.pointer (some ⟨p, 0, none⟩), .int .i64 0]) ∧ PgAt w3 p g d L M V Mo P ∧ Tch [g] w2 w3 ∧ w2.heap.size ≤ p ∧ w2.heap.size ≤ Mo := by
  have z : 0 < w.heap.size := tab.pos
  refine (open_ok h ho).mono ?_
  rintro e w' ⟨g, V, rfl, h1, h2, h3, h4, h5⟩
  refine ⟨g, V, rfl, h3, h4, h5, h1, fun w2 hl ht => ?_⟩
  have nz2 : 0 ∉ [g, d, L, M, V] := by
    simp only [List.mem_cons, List.not_mem_nil, or_false, not_or] at nz ⊢
    exact ⟨by omega, nz.1, nz.2.1, nz.2.2, by omega⟩
  refine (popen_any hl h2 hT ((tab.touch h3 nz).touch ht (by simp)) nz2).mono ?_
  intro e w3 hq
  unfold OpenPg at hq
  rw [hp] at hq
  obtain ⟨t7, ⟨hq, _⟩ | ⟨P', p, Mo, hq, rfl, _, hp, _, hp1, hp2⟩⟩ := hq
  · cases hq
  cases hq
  exact ⟨p, Mo, rfl, hp, t7, hp1, hp2⟩
set_option maxRecDepth 20000 in
set_option maxHeartbeats 2000000 in
theorem works9_any (w : World) (tab : Tab w) : Calls Tryz.prog 14 #[] w fun e w' => e = .returned (.bool true) ∧ Tch [] w w' := by
  have TAB := Lib.hid tab
  clear tab
  go_enter Tryz.func14, Tryz.ntmps14
  go_wp2_with fail
  refine (made13 w TAB.out).mono ?_
  rintro e w1 ⟨p, g, d, L, M, V, Mo, P, base, rfl, h0, hn, t1, own⟩
  obtain ⟨x, hx⟩ : ∃ x : Page, (Arr.text [97] : Page) = x := ⟨_, rfl⟩
  obtain ⟨f1, P1, P2, P3, P4, T, P5, e1, o1, e2, o2, e3, o3, e4, o4, e5, o5, e6, e7, o7, e8, e9, e10⟩ := PgS.works_plain hn x
  have HX := Lib.hid hx
  have H0 := Lib.hid h0
  have T1 := Lib.hid t1
  have OWN := Lib.hid own
  have O0 := Lib.hid hn.snd.ok
  have F1 := Lib.hid f1
  have E1 := Lib.hid (And.intro e1 o1)
  have E2 := Lib.hid (And.intro e2 o2)
  have E3 := Lib.hid (And.intro e3 o3)
  have E4 := Lib.hid (And.intro e4 o4)
  have E5 := Lib.hid (And.intro e5 (And.intro e6 e7))
  have E8 := Lib.hid (And.intro o7 (And.intro e8 (And.intro e9 e10)))
  clear hx h0 t1 own hn f1 e1 o1 e2 o2 e3 o3 e4 o4 e5 o5 e6 e7 o7 e8 e9 e10
  have OW : Hid (∀ X : List Nat, (∀ k ∈ X, k ∈ pgB p g d L M V Mo) → ∀ k ∈ X, w.heap.size ≤ k) := fun X hX k hk => OWN.out _ (hX k hk)
  go_upto_region 3 with (first | (go_at_call 11; refine (pfirst_any H0.out).mono ?_; rintro e w' ⟨rfl, rfl⟩) | (go_at_call 10; refine (pfree_any H0.out O0.out).mono ?_; rintro e w2 ⟨rfl, t2⟩; rw [F1.out]; have T2 := Lib.hid (T1.out.trans t2); have H1 := Lib.hid (H0.out.old t2); clear t2 H0 T1))
  refine (ptake_any H1.out O0.out).mono ?_
  rintro e w3 ⟨rfl, h2, t3⟩
  rw [E1.out.1] at h2 ⊢
  have H2 := Lib.hid h2
  have T3 := Lib.hid (tch_own T2.out t3 (OW.out _ (fun k hk => by simp only [List.mem_cons, List.not_mem_nil, or_false] at hk ⊢; omega)))
  clear h2 t3 T2 H1
  go_wp2_with fail
  refine (ptext_any ⟨#[97]⟩ w3 (by decide)).mono ?_
  rintro e w4 ⟨rfl, t4⟩
  rw [show (Arr.text (ByteArray.mk #[97]).data.toList : Page) = x from HX.out]
  have t5 : Tch [] w4 (w4.alloc (.cells (secA x) 54)) := (Tch.refl _ _).alloc _
  have B5 : Hid ((w4.alloc (.cells (secA x) 54)).heap[w4.heap.size]? = some (.cells (secA x) 54)) := heap_alloc_new _ _
  have H5 := Lib.hid (H2.out.old (t4.trans t5))
  have T5 := Lib.hid (T3.out.trans (t4.trans t5))
  have AP : Hid (∀ X : List Nat, (∀ k ∈ X, k ∈ pgB p g d L M V Mo) → w4.heap.size ∉ X) := fun X hX hm => by
    have h1 := H2.out.lt _ (List.mem_cons_of_mem _ (hX _ hm))
    have h2 := t4.size
    omega
  clear t4 t5 H2 T3
  go_upto_region 6 with (first | ((with_reducible refine wc_alloc_arr pageT ?_); go_frame; (try simp only [World.size_alloc])) | ((with_reducible apply wc_store_new pageT); exact rfl; exact rfl; go_frame))
  generalize w4.heap.size = bx at *
  generalize (w4.alloc (.cells (secA x) 54)) = w5 at *
  clear w4
  go_upto_region 8 with (first | ((with_reducible apply wcg_load_var pageT B5.out); exact rfl; exact rfl; go_frame) | (go_at_call 28; refine (pput_any H5.out E1.out.2 2 x).mono ?_; rintro e w6 ⟨rfl, h6, t6⟩; rw [E2.out.1] at h6 ⊢; have H6 := Lib.hid h6; have B6 := Lib.hid (t6.heap B5.out (AP.out _ (fun k hk => by simp only [List.mem_cons, List.not_mem_nil, or_false] at hk ⊢; omega))); have T6 := Lib.hid (tch_own T5.out t6 (OW.out _ (fun k hk => by simp only [List.mem_cons, List.not_mem_nil, or_false] at hk ⊢; omega))); clear h6 t6 H5 B5 T5) | (go_at_call 29; refine (psetRoot_any H6.out E2.out.2 3 2).mono ?_; rintro e w7 ⟨rfl, h7, t7⟩; rw [E3.out.1] at h7 ⊢; have H7 := Lib.hid h7; have B7 := Lib.hid (t7.heap B6.out (AP.out _ (fun k hk => by simp only [List.mem_cons, List.not_mem_nil, or_false] at hk ⊢; omega))); have T7 := Lib.hid (tch_own T6.out t7 (OW.out _ (fun k hk => by simp only [List.mem_cons, List.not_mem_nil, or_false] at hk ⊢; omega))); clear h7 t7 H6 B6 T6) | (go_at_call 18; refine (pcommit_any H7.out E3.out.2).mono ?_; rintro e w8 ⟨rfl, h8, t8⟩; rw [E4.out.1] at h8 ⊢; have H8 := Lib.hid h8; have B8 := Lib.hid (t8.heap B7.out (AP.out _ (fun k hk => by simp only [List.mem_cons, List.not_mem_nil, or_false] at hk ⊢; omega))); have T8 := Lib.hid (tch_own T7.out t8 (OW.out _ (fun k hk => by simp only [List.mem_cons, List.not_mem_nil, or_false] at hk ⊢; omega))); clear h8 t8 H7 B7 T7))
  have Z : Hid (∀ X : List Nat, (∀ k ∈ X, k ∈ pgB p g d L M V Mo) → 0 ∉ X) := fun X hX hm => H8.out.nz (hX 0 hm)
  have tab8 := H8.out.tab
  have hD8 := H8.out.log.hD
  have HD8 := Lib.hid hD8
  have TAB8 := Lib.hid tab8
  clear tab8 hD8
  go_wp2_with fail
  refine (reopen_any HD8.out E5.out.1 E5.out.2.2 (by rw [E5.out.2.1]; decide) TAB8.out (Z.out _ (fun k hk => by simp only [List.mem_cons, List.not_mem_nil, or_false] at hk ⊢; omega))).mono ?_
  rintro e w9 ⟨g2, V2, rfl, t9, gg, vv, h9, co⟩
  have B9 := Lib.hid (t9.heap B8.out (AP.out _ (fun k hk => by simp only [List.mem_cons, List.not_mem_nil, or_false] at hk ⊢; omega)))
  have T9 := Lib.hid (tch_own T8.out t9 (OW.out _ (fun k hk => by simp only [List.mem_cons, List.not_mem_nil, or_false] at hk ⊢; omega)))
  have H9 := Lib.hid h9
  have CO := Lib.hid co
  have GG := Lib.hid (Nat.le_trans T8.out.size gg)
  have GX : Hid (bx < g2) := Nat.lt_of_lt_of_le (lt_of_heap B8.out) gg
  clear t9 h9 co gg vv B8 T8 H8 HD8 TAB8
  go_wp2_with fail
  refine (CO.out _ H9.out (Tch.refl _ _)).mono ?_
  rintro e w10 ⟨p2, Mo2, rfl, h10, t10, _, _⟩
  have B10 := Lib.hid (t10.heap B9.out (by have := GX.out; simp; omega))
  have T10 := Lib.hid (tch_own T9.out t10 (by have := GG.out; simpa using this))
  have H10 := Lib.hid h10
  clear t10 h10 CO H9 B9 T9
  go_wp2_with fail
  refine (pget_any H10.out E8.out.1 2).mono ?_
  rintro e w11 ⟨rfl, h11, t11⟩
  rw [E8.out.2.1] at h11 ⊢
  have t12 : Tch [] w11 (w11.alloc (.cells (secA x) 54)) := (Tch.refl _ _).alloc _
  have Y12 : Hid ((w11.alloc (.cells (secA x) 54)).heap[w11.heap.size]? = some (.cells (secA x) 54)) := heap_alloc_new _ _
  have B12 := Lib.hid (t12.heap (t11.heap B10.out (by have := GX.out; simp; omega)) (by simp))
  have H12 := Lib.hid (h11.old t12)
  have T12 := Lib.hid ((tch_own T10.out t11 (by have := GG.out; simpa using this)).trans t12)
  clear t11 t12 h11 B10 T10 H10
  go_upto_region 15 with (first | ((with_reducible refine wc_alloc_arr pageT ?_); go_frame; (try simp only [World.size_alloc])) | ((with_reducible apply wc_store_new pageT); exact rfl; exact rfl; go_frame))
  generalize w11.heap.size = yx at *
  generalize (w11.alloc (.cells (secA x) 54)) = w12 at *
  clear w11
  go_wp2_with (first | (go_at_call 24; refine (proot_any H12.out 3).mono ?_; rintro e w' ⟨rfl, rfl⟩; rw [E8.out.2.2.1]) | ((with_reducible apply wcg_load_var pageT Y12.out); exact rfl; exact rfl; go_frame) | ((with_reducible apply wcg_load_var pageT B12.out); exact rfl; exact rfl; go_frame) | ((with_reducible apply wcg_eql_arr pageT); exact rfl; exact rfl; exact rfl; rw [decide_eq_true rfl]; go_frame) | (go_at_call 10; refine (pfree_any H12.out E8.out.1).mono ?_; rintro e w13 ⟨rfl, t13⟩; rw [E8.out.2.2.2]; have T13 := Lib.hid (T12.out.trans t13); clear t13))
  go_ret
  exact ⟨rfl, T13.out⟩
end Go.Proofs.YtkjgbhpnlgcinaaGreatDoor
