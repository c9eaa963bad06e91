/-
  The protocol of the log, plain: disks that are alive and unarmed; what a record's sectors say; no Go in it.
-/
import Derived.Test.YtkjgbhpnlgcinaaGreatDoorMW5
namespace Go.Cib
open Go Go.RowKit
namespace DiskS
/-- Alive, and no failure is due. -/
structure Calm (D : DiskS) : Prop where
  dead : D.dead = false
  armed : D.armed = 0
  ok : D.Ok
theorem Calm.may {D : DiskS} (h : D.Calm) {i : Int} (h0 : 0 ≤ i) (h1 : i < D.lasts.length) : D.may i = 0 := by
  unfold DiskS.may; rw [if_neg (by simp [h.dead]), if_neg (by omega), if_neg (by omega)]
theorem goes_calm {D : DiskS} (h : D.armed = 0) : D.goes = D := by unfold goes; rw [if_pos h]
theorem Calm.write {D : DiskS} (h : D.Calm) {i : Int} (h0 : 0 ≤ i) (h1 : i < D.lasts.length) (s : Sec) : D.write i s = (0, D.put i s) := by
  unfold DiskS.write went
  rw [if_pos (h.may h0 h1), h.armed, goes_calm (show (D.put i s).armed = 0 from h.armed)]
  rfl
theorem Calm.put {D : DiskS} (h : D.Calm) {i : Int} (h0 : 0 ≤ i) (h1 : i < D.lasts.length) (s : Sec) : (D.put i s).Calm := ⟨h.dead, h.armed, h.ok.put (h.may h0 h1)⟩
theorem Calm.flush {D : DiskS} (h : D.Calm) : D.flush = (0, D.counted.flushed) := by
  unfold DiskS.flush went
  rw [if_neg (by simp [h.dead]), h.armed, goes_calm (show D.counted.armed = 0 from h.armed)]
  rfl
theorem Calm.flushed {D : DiskS} (h : D.Calm) : (D.counted.flushed).Calm := ⟨h.dead, h.armed, h.ok.counted.flushed⟩
theorem at_put (D : DiskS) (i : Int) (s : Sec) (j : Int) : (D.put i s).at_ j = if j = i then s else D.at_ j := by
  unfold at_ put
  by_cases e : j = i
  · simp [e]
  · simp [e]
theorem at_flushed (D : DiskS) {j : Int} (h0 : 0 ≤ j) (h1 : j < D.lasts.length) : (D.counted.flushed).at_ j = D.at_ j := by
  unfold at_ flushed counted
  simp only [Option.getD_none]
  have h2 : j.toNat < D.lasts.length := by omega
  rw [List.getD_eq_getElem?_getD, getElem?_lay, List.getElem?_eq_getElem h2]
  have e : ((j.toNat : Nat) : Int) = j := by omega
  simp only [Option.map_some, Option.getD_some, e]
  rw [List.getD_eq_getElem?_getD, List.getElem?_eq_getElem h2]
  rfl
/-- What is read where, behind so many acts. -/
def layA (f : Int → Sec) : List DAct → Int → Sec
  | [] => f
  | .write i s :: xs => layA (fun j => if j = i then s else f j) xs
  | .flush :: xs => layA f xs
theorem layA_append (f : Int → Sec) (xs ys : List DAct) : layA f (xs ++ ys) = layA (layA f xs) ys := by
  induction xs generalizing f with
  | nil => rfl
  | cons x xs ih => cases x <;> exact ih _
theorem layA_congr {f g : Int → Sec} {n : Int} (h : ∀ j, 0 ≤ j → j < n → f j = g j) (xs : List DAct) : ∀ j, 0 ≤ j → j < n → layA f xs j = layA g xs j := by
  induction xs generalizing f g with
  | nil => exact h
  | cons x xs ih =>
    cases x with
    | write i s =>
      refine ih ?_
      intro j h0 h1
      by_cases e : j = i
      · simp [e]
      · simp [e, h j h0 h1]
    | flush => exact ih h
/-- All acts are about sectors that are there. -/
def InA (n : Int) (xs : List DAct) : Prop := ∀ i s, DAct.write i s ∈ xs → 0 ≤ i ∧ i < n
theorem Calm.acts (xs : List DAct) : ∀ {D : DiskS}, D.Calm → InA D.lasts.length xs → (D.acts xs).1 = 0 ∧ (D.acts xs).2.Calm ∧ ∀ (j : Int), 0 ≤ j → j < D.lasts.length → (D.acts xs).2.at_ j = layA D.at_ xs j := by
  induction xs with
  | nil => exact fun h _ => ⟨rfl, h, fun _ _ _ => rfl⟩
  | cons x xs ih =>
    intro D h hin
    rw [acts_cons]
    have hin' : InA D.lasts.length xs := fun i s hm => hin i s (List.mem_cons_of_mem _ hm)
    cases x with
    | write i s =>
      obtain ⟨h0, h1⟩ := hin i s (by simp)
      have e : D.act (.write i s) = (0, D.put i s) := h.write h0 h1 s
      rw [e, if_pos rfl]
      obtain ⟨k1, k2, k3⟩ := ih (h.put h0 h1 s) hin'
      refine ⟨k1, k2, fun j g0 g1 => ?_⟩
      rw [k3 j g0 g1]
      exact layA_congr (n := D.lasts.length) (fun j' _ _ => at_put D i s j') xs j g0 g1
    | flush =>
      have e : D.act .flush = (0, D.counted.flushed) := h.flush
      have hl : (D.counted.flushed).lasts.length = D.lasts.length := length_lay _ _
      rw [e, if_pos rfl]
      obtain ⟨k1, k2, k3⟩ := ih h.flushed (by rw [hl]; exact hin')
      refine ⟨k1, k2, fun j g0 g1 => ?_⟩
      rw [k3 j g0 (by rw [hl]; exact g1)]
      exact layA_congr (n := D.lasts.length) (fun j' a b => at_flushed D a b) xs j g0 g1
/-- Behind a flush nothing waits. -/
theorem flush_waits {D : DiskS} (h : D.Calm) (xs : List DAct) (hin : InA D.lasts.length xs) : (D.acts (xs ++ [.flush])).2.waits = fun _ => none := by
  rw [acts_append]
  obtain ⟨k1, k2, _⟩ := h.acts xs hin
  rw [if_pos k1, acts_one]
  show (D.acts xs).2.flush.2.waits = _
  rw [k2.flush]
  rfl
theorem Calm.read {D : DiskS} (h : D.Calm) {i : Int} (h0 : 0 ≤ i) (h1 : i < D.lasts.length) : D.read i = (D.at_ i, 0) := by
  unfold DiskS.read; rw [if_pos (h.may h0 h1)]
end DiskS
namespace LogS
theorem layA_puts (S : LogS) : ∀ (fs : List FrameV) (pl : Nat) (f : Int → Sec) (j : Int), DiskS.layA f (S.putsA pl fs) j = match fs[(j - pl).toNat]? with | some x => if (pl : Int) ≤ j then (S.rec_ x).sector else f j | none => f j
  | [], pl, f, j => by simp [putsA, DiskS.layA]
  | x :: fs, pl, f, j => by
    rw [putsA, DiskS.layA, layA_puts S fs (pl + 1)]
    by_cases h : (pl : Int) ≤ j
    · by_cases e : j = pl
      · subst e
        have e1 : (((pl : Int) - ((pl + 1 : Nat) : Int)).toNat) = 0 := by omega
        have e2 : (((pl : Int) - (pl : Int)).toNat) = 0 := by omega
        rw [e1, e2]
        have h3 : ¬ (((pl + 1 : Nat) : Int) ≤ (pl : Int)) := by omega
        cases hf : fs[0]? with
        | none => simp
        | some y => simp only [h3, if_false]; simp
      · have e1 : (j - (pl : Int)).toNat = (j - ((pl + 1 : Nat) : Int)).toNat + 1 := by omega
        rw [e1, List.getElem?_cons_succ]
        have h3 : ((pl + 1 : Nat) : Int) ≤ j := by omega
        cases hf : fs[(j - ((pl + 1 : Nat) : Int)).toNat]? with
        | none => simp [e]
        | some y => simp only [h3, h, if_true]
    · have h3 : ¬ (((pl + 1 : Nat) : Int) ≤ j) := by omega
      have e : j ≠ pl := by omega
      have e2 : (j - (pl : Int)).toNat = 0 := by omega
      rw [e2, List.getElem?_cons_zero]
      simp only [h, if_false, e]
      cases hf : fs[(j - ((pl + 1 : Nat) : Int)).toNat]? with
      | none => rfl
      | some y => simp only [h3, if_false]
theorem inA_puts (S : LogS) (n : Int) : ∀ (fs : List FrameV) (pl : Nat), ((pl + fs.length : Nat) : Int) ≤ n → DiskS.InA n (S.putsA pl fs)
  | [], _, _ => fun i s h => by simp [putsA] at h
  | x :: fs, pl, hn => fun i s h => by
    rw [putsA] at h
    simp only [List.length_cons] at hn
    rcases List.mem_cons.1 h with h | h
    · cases h; exact ⟨by omega, by omega⟩
    · exact inA_puts S n fs (pl + 1) (by omega) i s h
/-- The frame at a place where one was written. -/
theorem atF_of {S : LogS} {place : Nat} {f : FrameV} (hp : place < S.log) (h : S.disk.at_ ((2 + place : Nat) : Int) = f.sector) (hf : f.Ok) : S.atF place = f := by
  unfold atF; rw [if_pos hp, h, parse_sector hf]
theorem atOk_of {S : LogS} {place : Nat} {f : FrameV} (hp : place < S.log) (h : S.disk.at_ ((2 + place : Nat) : Int) = (S.rec_ f).sector) (hf : (S.rec_ f).Ok) : S.atOk place f.kind = true := by
  unfold atOk
  rw [atF_of hp h hf, h, parse_sector hf]
  simp [hp, rec_]
/-- Where no frame lies there is none. -/
theorem atOk_none {S : LogS} {place : Nat} {kind : UInt8} (h : reads (S.disk.at_ ((2 + place : Nat) : Int)) = none) : S.atOk place kind = false := by
  unfold atOk
  have : decide ((parse (S.disk.at_ ((2 + place : Nat) : Int))).sector = S.disk.at_ ((2 + place : Nat) : Int)) = false := by
    unfold reads at h
    split at h
    · cases h
    · rename_i hn; exact decide_eq_false hn
  rw [this]
  simp
theorem record_none {S : LogS} (h : S.atOk S.used 2 = false) : S.record = none := by
  unfold record; rw [if_neg (by rw [h]; simp)]
/-- A record that was written whole is found. -/
theorem record_of {S : LogS} (ok : S.Ok) {ws : List (Nat × Page)} (h1 : 1 ≤ ws.length) (h2 : ws.length ≤ 120) (h3 : S.used + ws.length + 2 ≤ S.log) (hlt : ∀ q ∈ ws, q.1 < S.pages) (hnd : (ws.map (·.1)).Nodup)
    (a2 : S.disk.at_ ((2 + S.used : Nat) : Int) = (S.rec_ (frame2 (ws.map (·.1)))).sector) (a3 : ∀ k q, ws[k]? = some q → S.disk.at_ ((3 + S.used + k : Nat) : Int) = (S.rec_ (frame3 k q.2)).sector)
    (a4 : S.disk.at_ ((3 + S.used + ws.length : Nat) : Int) = (S.rec_ (frame4 ws.length)).sector) : S.record = some ws := by
  have hrec : S.records < 18446744073709551616 := by have := ok.records; have := ok.used; have := ok.log4; omega
  have ok2 : (S.rec_ (frame2 (ws.map (·.1)))).Ok := ⟨ok.gen, hrec, by show (ws.map (·.1)).length < _; rw [List.length_map]; omega⟩
  have ok3 : ∀ k x, k < 1000 → (S.rec_ (frame3 k x)).Ok := fun k x hk => ⟨ok.gen, hrec, by show k < _; omega⟩
  have ok4 : (S.rec_ (frame4 ws.length)).Ok := ⟨ok.gen, hrec, by show ws.length < _; omega⟩
  have f2 : S.atF S.used = S.rec_ (frame2 (ws.map (·.1))) := atF_of (by omega) a2 ok2
  have hidx : (S.atF S.used).idx = ws.length := by rw [f2]; show (ws.map (·.1)).length = _; rw [List.length_map]
  have hnum : ∀ k q, ws[k]? = some q → numAt (S.atF S.used).page k = q.1 := by
    intro k q hk
    rw [f2]
    have := hlt q (List.mem_of_getElem? hk)
    have := ok.pages2
    exact numAt_nums (l := ws.map (·.1)) (n := q.1) (by rw [List.length_map]; exact h2) (by rw [List.getElem?_map, hk]; rfl) (by omega)
  have hnames : names (S.atF S.used) = ws.map (·.1) := by
    unfold names
    rw [hidx]
    apply List.ext_getElem?
    intro k
    rw [List.getElem?_map, List.getElem?_map]
    by_cases hk : k < ws.length
    · rw [List.getElem?_range hk, List.getElem?_eq_getElem hk]
      simp only [Option.map_some]
      rw [hnum k _ (List.getElem?_eq_getElem hk)]
    · rw [List.getElem?_eq_none (by simpa using hk), List.getElem?_eq_none (by omega)]
      rfl
  have hF3 : ∀ k q, ws[k]? = some q → S.atF (S.used + 1 + k) = S.rec_ (frame3 k q.2) := fun k q hk => by
    have hkl := (List.getElem?_eq_some_iff.1 hk).1
    refine atF_of (by omega) ?_ (ok3 k q.2 (by omega))
    rw [show 2 + (S.used + 1 + k) = 3 + S.used + k by omega]; exact a3 k q hk
  have hF4 : S.atF (S.used + 1 + ws.length) = S.rec_ (frame4 ws.length) := by
    refine atF_of (by omega) ?_ ok4
    rw [show 2 + (S.used + 1 + ws.length) = 3 + S.used + ws.length by omega]; exact a4
  have k2 : S.atOk S.used 2 = true := by
    have e : (frame2 (ws.map (·.1))).kind = 2 := rfl
    rw [← e]
    exact atOk_of (by omega) a2 ok2
  have k4 : S.atOk (S.used + 1 + ws.length) 4 = true := by
    have e : (frame4 ws.length).kind = 4 := rfl
    rw [← e]
    refine atOk_of (by omega) ?_ ok4
    rw [show 2 + (S.used + 1 + ws.length) = 3 + S.used + ws.length by omega]; exact a4
  have k3 : ∀ k q, ws[k]? = some q → S.atOk (S.used + 1 + k) 3 = true := by
    intro k q hk
    have hkl := (List.getElem?_eq_some_iff.1 hk).1
    have e : (frame3 k q.2).kind = 3 := rfl
    rw [← e]
    refine atOk_of (by omega) ?_ (ok3 k _ (by omega))
    rw [show 2 + (S.used + 1 + k) = 3 + S.used + k by omega]; exact a3 k _ hk
  unfold record
  rw [hidx, if_pos]
  · congr 1
    unfold images
    rw [hidx]
    apply List.ext_getElem?
    intro k
    rw [List.getElem?_map]
    by_cases hk : k < ws.length
    · have hg := List.getElem?_eq_getElem hk
      rw [List.getElem?_range hk, hg]
      simp only [Option.map_some]
      rw [hnum k _ hg, hF3 k _ hg]
      rfl
    · rw [List.getElem?_eq_none (by simpa using hk), List.getElem?_eq_none (by omega)]
      rfl
  · refine ⟨k2, h1, h2, h3, ?_, ?_, k4, ?_, ?_⟩
    · unfold listed
      rw [hnames]
      have e1 : decide (∀ n ∈ ws.map (fun (q : Nat × Page) => q.1), n < S.pages) = true := decide_eq_true (fun n hn => by obtain ⟨q, hq, rfl⟩ := List.mem_map.1 hn; exact hlt q hq)
      have e5 : (S.rec_ (frame2 (ws.map (·.1)))).page = numsPage (ws.map (·.1)) := rfl
      rw [e1, decide_eq_true hnd, f2, e5]
      simp
    · intro k hk
      have hg := List.getElem?_eq_getElem hk
      have e6 : (S.rec_ (frame3 k (ws[k]).2)).idx = k := rfl
      exact ⟨k3 k _ hg, (congrArg FrameV.idx (hF3 k _ hg)).trans e6⟩
    · exact (congrArg FrameV.idx hF4).trans rfl
    · exact (congrArg FrameV.page hF4).trans rfl
end LogS
end Go.Cib
/-
  What a disk is behind a failure of the power, plain: each sector is what it was, or one that was written to it; no Go in it.
-/
namespace Go.Cib
open Go Go.RowKit
namespace DiskS
def lastAt (D : DiskS) (j : Int) : Sec := D.lasts.getD j.toNat Arr.zero
/-- Each sector is what it was, or one of those that were written. -/
def Mix (n : Nat) (f : Int → Sec) (W : DAct → Prop) (D : DiskS) : Prop :=
  ∀ j : Int, 0 ≤ j → j < (n : Int) → (D.lastAt j = f j ∨ W (.write j (D.lastAt j))) ∧ ∀ s, D.waits j = some s → W (.write j s)
theorem Mix.at_ {n : Nat} {f : Int → Sec} {W : DAct → Prop} {D : DiskS} (h : Mix n f W D) {j : Int} (h0 : 0 ≤ j) (h1 : j < (n : Int)) : D.at_ j = f j ∨ W (.write j (D.at_ j)) := by
  unfold DiskS.at_
  cases hw : D.waits j with
  | none => exact (h j h0 h1).1
  | some s => exact .inr ((h j h0 h1).2 s hw)
theorem Mix.put {n : Nat} {f : Int → Sec} {W : DAct → Prop} {D : DiskS} (h : Mix n f W D) (i : Int) (s : Sec) (hw : W (.write i s)) : Mix n f W (D.put i s) := by
  intro j h0 h1
  refine ⟨(h j h0 h1).1, fun t ht => ?_⟩
  change (if j = i then some s else D.waits j) = some t at ht
  by_cases e : j = i
  · rw [if_pos e] at ht; cases ht; rw [e]; exact hw
  · rw [if_neg e] at ht; exact (h j h0 h1).2 t ht
theorem Mix.goes {n : Nat} {f : Int → Sec} {W : DAct → Prop} {D : DiskS} (h : Mix n f W D) : Mix n f W D.goes := by
  unfold DiskS.goes
  split
  · exact h
  · exact h
theorem Mix.counted {n : Nat} {f : Int → Sec} {W : DAct → Prop} {D : DiskS} (h : Mix n f W D) : Mix n f W D.counted := h
theorem lastAt_flushed (D : DiskS) {j : Int} (h0 : 0 ≤ j) (h1 : j < D.lasts.length) : D.flushed.lastAt j = D.at_ j := by
  unfold lastAt flushed DiskS.at_
  have h2 : j.toNat < D.lasts.length := by omega
  rw [List.getD_eq_getElem?_getD, getElem?_lay, List.getElem?_eq_getElem h2]
  have e : ((j.toNat : Nat) : Int) = j := by omega
  simp only [Option.map_some, Option.getD_some, e]
  rw [List.getD_eq_getElem?_getD, List.getElem?_eq_getElem h2]
  rfl
theorem Mix.flushed {f : Int → Sec} {W : DAct → Prop} {D : DiskS} (h : Mix D.lasts.length f W D) : Mix D.lasts.length f W D.flushed := by
  intro j h0 h1
  refine ⟨?_, fun s hs => by cases hs⟩
  rw [lastAt_flushed D h0 h1]
  exact h.at_ h0 h1
theorem goes_alive {D : DiskS} (h : D.went = false) (hd : D.dead = false) : D.goes.dead = false ∧ (D.armed = 0 → D.goes.armed = 0) := by
  unfold DiskS.goes
  unfold DiskS.went at h
  split
  · rename_i e; exact ⟨hd, fun _ => e⟩
  · rename_i e; exact ⟨h, fun e2 => absurd e2 e⟩
theorem goes_dies {D : DiskS} (h : D.went = true) : D.goes.dead = true ∧ D.armed ≠ 0 := by
  unfold DiskS.went at h
  have e : D.armed = 1 := by simpa using h
  unfold DiskS.goes
  rw [if_neg (by omega)]
  exact ⟨h, by omega⟩
theorem at_goes (D : DiskS) (j : Int) : D.goes.at_ j = D.at_ j := by
  unfold DiskS.goes; split <;> rfl
theorem may_in {D : DiskS} (hd : D.dead = false) {i : Int} (h0 : 0 ≤ i) (h1 : i < D.lasts.length) : D.may i = 0 := by
  unfold DiskS.may; rw [if_neg (by simp [hd]), if_neg (by omega), if_neg (by omega)]
theorem at_flushed' (D : DiskS) {j : Int} (h0 : 0 ≤ j) (h1 : j < D.lasts.length) : D.flushed.at_ j = D.at_ j := lastAt_flushed D h0 h1
/-- So many acts of a disk that is alive: all are done, or the power went in one of them. -/
theorem acts_go {n : Nat} {f : Int → Sec} {W : DAct → Prop} (xs : List DAct) : ∀ {D : DiskS}, D.dead = false → D.Ok → D.lasts.length = n → InA (n : Int) xs → (∀ x ∈ xs, W x) → Mix n f W D →
    ((D.acts xs).1 = 0 ∧ (D.acts xs).2.dead = false ∧ (D.acts xs).2.Ok ∧ Mix n f W (D.acts xs).2 ∧ (∀ j : Int, 0 ≤ j → j < (n : Int) → (D.acts xs).2.at_ j = layA D.at_ xs j) ∧ (D.armed = 0 → (D.acts xs).2.armed = 0)) ∨
    ((D.acts xs).1 = 6 ∧ (D.acts xs).2.dead = true ∧ (D.acts xs).2.Ok ∧ D.armed ≠ 0 ∧ Mix n f W (D.acts xs).2) := by
  induction xs with
  | nil => exact fun hd ok _ _ _ hm => .inl ⟨rfl, hd, ok, hm, fun _ _ _ => rfl, fun h => h⟩
  | cons x xs ih =>
    intro D hd ok hl hin hW hm
    rw [acts_cons]
    have hin' : InA (n : Int) xs := fun i s hmm => hin i s (List.mem_cons_of_mem _ hmm)
    have hW' : ∀ y ∈ xs, W y := fun y hy => hW y (List.mem_cons_of_mem _ hy)
    have okx := ok.act x
    have lx := length_act D x
    cases x with
    | write i s =>
      obtain ⟨h0, h1⟩ := hin i s (by simp)
      have hma := may_in hd h0 (by rw [hl]; exact h1)
      have e : D.act (.write i s) = (if D.went = true then 6 else 0, (D.put i s).goes) := by
        show D.write i s = _
        unfold DiskS.write
        rw [if_pos hma]
      have hm2 : Mix n f W (D.put i s).goes := (hm.put i s (hW _ (by simp))).goes
      rw [e] at okx lx ⊢
      by_cases hw : D.went = true
      · rw [if_pos hw, if_neg (show ¬ (6 : Int) = 0 by decide)]
        obtain ⟨d1, d2⟩ := goes_dies (D := D.put i s) hw
        exact .inr ⟨rfl, d1, okx, d2, hm2⟩
      · rw [if_neg hw, if_pos rfl]
        obtain ⟨a1, a2⟩ := goes_alive (D := D.put i s) ((Bool.not_eq_true _).mp hw) hd
        rcases ih (D := (D.put i s).goes) a1 okx (lx.trans hl) hin' hW' hm2 with ⟨k1, k2, k3, k4, k5, k6⟩ | ⟨k1, k2, k3, k4, k5⟩
        · refine .inl ⟨k1, k2, k3, k4, fun j g0 g1 => ?_, fun h => k6 (a2 h)⟩
          rw [k5 j g0 g1]
          exact layA_congr (n := (n : Int)) (fun j' _ _ => by rw [at_goes]; exact at_put D i s j') xs j g0 g1
        · exact .inr ⟨k1, k2, k3, fun h => k4 (a2 h), k5⟩
    | flush =>
      have e : D.act .flush = D.flush := rfl
      rw [e] at okx lx ⊢
      have hf : D.flush = if D.went = true then (6, D.counted.goes) else (0, D.counted.goes.flushed) := by
        unfold DiskS.flush; rw [if_neg (by simp [hd])]
      rw [hf] at okx lx ⊢
      have hm2 : Mix n f W D.counted.goes := hm.counted.goes
      by_cases hw : D.went = true
      · rw [if_pos hw] at okx ⊢
        rw [if_neg (show ¬ (6 : Int) = 0 by decide)]
        obtain ⟨d1, d2⟩ := goes_dies (D := D.counted) hw
        exact .inr ⟨rfl, d1, okx, d2, hm2⟩
      · rw [if_neg hw] at okx lx ⊢
        rw [if_pos rfl]
        obtain ⟨a1, a2⟩ := goes_alive (D := D.counted) ((Bool.not_eq_true _).mp hw) hd
        have hl2 : D.counted.goes.lasts.length = n := by rw [length_goes]; exact hl
        have hm3 : Mix n f W D.counted.goes.flushed := by
          have := Mix.flushed (f := f) (W := W) (D := D.counted.goes) (by rw [hl2]; exact hm2)
          rw [hl2] at this; exact this
        rcases ih (D := D.counted.goes.flushed) a1 okx (lx.trans hl) hin' hW' hm3 with ⟨k1, k2, k3, k4, k5, k6⟩ | ⟨k1, k2, k3, k4, k5⟩
        · refine .inl ⟨k1, k2, k3, k4, fun j g0 g1 => ?_, fun h => k6 (a2 h)⟩
          rw [k5 j g0 g1]
          exact layA_congr (n := (n : Int)) (fun j' b0 b1 => by rw [at_flushed' _ b0 (by rw [hl2]; exact b1), at_goes]; rfl) xs j g0 g1
        · exact .inr ⟨k1, k2, k3, fun h => k4 (a2 h), k5⟩
/-- Behind the last flush nothing waits. -/
theorem acts_flush (D : DiskS) (xs : List DAct) (h : (D.acts (xs ++ [.flush])).1 = 0) : (D.acts (xs ++ [.flush])).2.waits = fun _ => none := by
  rw [acts_append] at h ⊢
  split
  · rename_i h2
    rw [if_pos h2, acts_one] at h
    rw [acts_one]
    change (D.acts xs).2.flush.1 = 0 at h
    show (D.acts xs).2.flush.2.waits = _
    unfold DiskS.flush at h ⊢
    split
    · rename_i h3; rw [if_pos h3] at h; cases h
    · rename_i h3
      rw [if_neg h3] at h
      split
      · rename_i h4; rw [if_pos h4] at h; cases h
      · rfl
  · rename_i h2
    rw [if_neg h2] at h
    exact absurd h h2
/-- A disk on which nothing waits: each sector is what is read. -/
theorem Mix.of_still {D : DiskS} (h : D.waits = fun _ => none) (W : DAct → Prop) : Mix D.lasts.length D.at_ W D := by
  intro j h0 h1
  refine ⟨.inl ?_, fun s hs => by rw [h] at hs; cases hs⟩
  unfold DiskS.at_ lastAt
  rw [h]; rfl
/-- The power comes back. -/
theorem Mix.on {n : Nat} {f : Int → Sec} {W : DAct → Prop} {E : DiskS} (hm : Mix n f W E) (hl : E.lasts.length = n) (ok : E.Ok) (hd : E.dead = true) (keep : List Int) :
    (E.on keep).1 = 0 ∧ (E.on keep).2.dead = false ∧ (E.on keep).2.Ok ∧ (E.on keep).2.lasts.length = n ∧ (E.on keep).2.waits = (fun _ => none) ∧ (E.on keep).2.armed = E.armed ∧ ∀ j : Int, 0 ≤ j → j < (n : Int) → (E.on keep).2.at_ j = f j ∨ W (.write j ((E.on keep).2.at_ j)) := by
  have ok2 := ok.on keep
  have e : E.on keep = (0, { E with dead := false, lasts := lay E.lasts (E.kept keep), waits := fun _ => none }) := by
    unfold DiskS.on; rw [if_pos hd]
  rw [e] at ok2 ⊢
  refine ⟨rfl, rfl, ok2, (length_lay _ _).trans hl, rfl, rfl, fun j h0 h1 => ?_⟩
  have h2 : j.toNat < E.lasts.length := by omega
  have e1 : (({ E with dead := false, lasts := lay E.lasts (E.kept keep), waits := fun _ => none } : DiskS).at_ j) = (E.kept keep j).getD (E.lastAt j) := by
    show (lay E.lasts (E.kept keep)).getD j.toNat Arr.zero = _
    unfold lastAt
    rw [List.getD_eq_getElem?_getD, getElem?_lay, List.getElem?_eq_getElem h2]
    have e : ((j.toNat : Nat) : Int) = j := by omega
    simp only [Option.map_some, Option.getD_some, e]
    rw [List.getD_eq_getElem?_getD, List.getElem?_eq_getElem h2]
    rfl
  rw [e1]
  unfold kept
  split
  · cases hw : E.waits j with
    | none => exact (hm j h0 h1).1
    | some s => exact .inr ((hm j h0 h1).2 s hw)
  · exact (hm j h0 h1).1
end DiskS
end Go.Cib
/-
  A log that is sound, plain: what lies on its disk, and what is left of it wherever the power goes; no Go in it.
-/
namespace Go.Cib
open Go Go.RowKit
namespace LogS
abbrev Rec := List (Nat × Page)
/-- The pages behind a record. -/
def putNow (now : Nat → Page) (ws : Rec) : Nat → Page := ws.foldl (fun n q p => if p = q.1 then q.2 else n p) now
theorem overs_now (ws : Rec) : ∀ (o : Int → Option Page) (now : Nat → Page) (p : Nat), (∀ x, o (p : Int) = some x → now p = x) →
    (∀ x, overs o ws (p : Int) = some x → putNow now ws p = x) ∧ (overs o ws (p : Int) = none → o (p : Int) = none ∧ putNow now ws p = now p) := by
  induction ws with
  | nil => exact fun o now p h => ⟨h, fun h2 => ⟨h2, rfl⟩⟩
  | cons q ws ih =>
    intro o now p h
    have k := ih (fun p => if p = (q.1 : Int) then some q.2 else o p) (fun p => if p = q.1 then q.2 else now p) p (by
      intro x hx
      by_cases e : p = q.1
      · subst e; simp only [if_true] at hx ⊢; exact Option.some.inj hx
      · have e2 : ¬ ((p : Int) = (q.1 : Int)) := by omega
        simp only [e, e2, if_false] at hx ⊢; exact h x hx)
    refine ⟨k.1, fun h2 => ?_⟩
    obtain ⟨k2, k3⟩ := k.2 h2
    by_cases e : p = q.1
    · subst e; simp only [if_true] at k2; cases k2
    · have e2 : ¬ ((p : Int) = (q.1 : Int)) := by omega
      simp only [e2, if_false] at k2
      refine ⟨k2, ?_⟩
      show putNow (fun p => if p = q.1 then q.2 else now p) ws p = _
      rw [k3]; simp only [e, if_false]
/-- What a sector may say that lies behind the records. -/
def Old (g r : Nat) (s : Sec) : Prop := ∀ f, reads s = some f → f.gen < g ∨ (f.gen = g ∧ (f.num < r ∨ (f.num = r ∧ f.kind ≠ 4)))
/-- A record lies there whole. -/
structure LiesR (m : Int → Sec) (S : LogS) (ws : Rec) : Prop where
  n1 : 1 ≤ ws.length
  n2 : ws.length ≤ 120
  room : S.used + ws.length + 2 ≤ S.log
  lt : ∀ q ∈ ws, q.1 < S.pages
  nodup : (ws.map (·.1)).Nodup
  a2 : m ((2 + S.used : Nat) : Int) = (S.rec_ (frame2 (ws.map (·.1)))).sector
  a3 : ∀ k q, ws[k]? = some q → m ((3 + S.used + k : Nat) : Int) = (S.rec_ (frame3 k q.2)).sector
  a4 : m ((3 + S.used + ws.length : Nat) : Int) = (S.rec_ (frame4 ws.length)).sector
def Lies (m : Int → Sec) : LogS → List Rec → LogS → Prop
  | S, [], T => T = S
  | S, r :: rs, T => LiesR m S r ∧ Lies m (S.took r) rs T
theorem Lies.snoc {m : Int → Sec} : ∀ {rs : List Rec} {S T : LogS} {r : Rec}, Lies m S rs T → LiesR m T r → Lies m S (rs ++ [r]) (T.took r)
  | [], S, T, r, h, hr => by cases h; exact ⟨hr, rfl⟩
  | x :: rs, S, T, r, h, hr => ⟨h.1, Lies.snoc (rs := rs) h.2 hr⟩
theorem Lies.grow {m : Int → Sec} : ∀ {rs : List Rec} {S T : LogS}, Lies m S rs T → S.used ≤ T.used ∧ S.used + rs.length ≤ T.used ∧ S.log = T.log ∧ T.disk = S.disk
  | [], S, T, h => by cases h; exact ⟨Nat.le_refl _, Nat.le_refl _, rfl, rfl⟩
  | x :: rs, S, T, h => by
    obtain ⟨k1, k2, k3, k4⟩ := Lies.grow (rs := rs) h.2
    have e1 : (S.took x).used = S.used + x.length + 2 := rfl
    have e2 : (S.took x).log = S.log := rfl
    rw [e1] at k1 k2
    rw [e2] at k3
    exact ⟨by omega, by rw [List.length_cons]; omega, k3, k4⟩
theorem LiesR.congr {m m' : Int → Sec} {S : LogS} {r : Rec} (h : LiesR m S r) (hm : ∀ p, p < S.used + r.length + 2 → m' ((2 + p : Nat) : Int) = m ((2 + p : Nat) : Int)) : LiesR m' S r := by
  refine ⟨h.n1, h.n2, h.room, h.lt, h.nodup, ?_, fun k q hk => ?_, ?_⟩
  · rw [hm S.used (by omega)]; exact h.a2
  · have hkl := (List.getElem?_eq_some_iff.1 hk).1
    rw [show 3 + S.used + k = 2 + (1 + S.used + k) by omega, hm (1 + S.used + k) (by omega), show 2 + (1 + S.used + k) = 3 + S.used + k by omega]; exact h.a3 k q hk
  · rw [show 3 + S.used + r.length = 2 + (1 + S.used + r.length) by omega, hm _ (by omega), show 2 + (1 + S.used + r.length) = 3 + S.used + r.length by omega]; exact h.a4
theorem Lies.congr {m m' : Int → Sec} : ∀ {rs : List Rec} {S T : LogS}, Lies m S rs T → (∀ p, p < T.used → m' ((2 + p : Nat) : Int) = m ((2 + p : Nat) : Int)) → Lies m' S rs T
  | [], S, T, h, hm => h
  | x :: rs, S, T, h, hm => by
    have k := (Lies.grow (rs := rs) h.2).1
    have e1 : (S.took x).used = S.used + x.length + 2 := rfl
    rw [e1] at k
    exact ⟨h.1.congr fun p hp => hm p (by omega), Lies.congr (rs := rs) h.2 hm⟩
def on (S : LogS) (D : DiskS) : LogS := { S with disk := D }
theorem Lies.on {m : Int → Sec} (D : DiskS) : ∀ {rs : List Rec} {S T : LogS}, Lies m S rs T → Lies m (S.on D) rs (T.on D)
  | [], S, T, h => by cases h; rfl
  | x :: rs, S, T, h => ⟨⟨h.1.n1, h.1.n2, h.1.room, h.1.lt, h.1.nodup, h.1.a2, h.1.a3, h.1.a4⟩, Lies.on D (rs := rs) h.2⟩
/-- All records are found. -/
theorem Lies.runs : ∀ {rs : List Rec} {S T : LogS}, S.Ok → Lies S.disk.at_ S rs T → T.record = none → ∀ n, rs.length ≤ n → S.runs n = T
  | [], S, T, _, h, hn, n, _ => by cases h; exact runs_stop n _ hn
  | x :: rs, S, T, ok, h, hn, 0, hl => by simp at hl
  | x :: rs, S, T, ok, h, hn, n + 1, hl => by
    have hr : S.record = some x := record_of ok h.1.n1 h.1.n2 h.1.room h.1.lt h.1.nodup h.1.a2 h.1.a3 h.1.a4
    rw [runs_succ, hr]
    exact Lies.runs (rs := rs) (ok.took h.1.room h.1.lt) h.2 hn n (by simpa using hl)
/-- What lies on a disk of a log that is sound; z: nothing behind its records can be taken for one. -/
structure Lay (z : Bool) (m : Int → Sec) (S : LogS) (now : Nat → Page) : Prop where
  log3 : 3 ≤ S.log
  log4 : S.log ≤ 4000
  pages1 : 1 ≤ S.pages
  pages2 : S.pages ≤ 16384
  used : S.used ≤ S.log
  records : S.records ≤ S.used
  sup : ∀ i x, S.over i = some x → 0 ≤ i ∧ i < S.pages
  gen1 : 1 ≤ S.gen
  gen2 : S.gen < 18446744073709551616
  head : m ((S.gen % 2 : Nat) : Int) = S.headF.sector
  other : ∀ f, reads (m (((S.gen + 1) % 2 : Nat) : Int)) = some f → f.gen < S.gen
  recs : ∃ rs, Lies m { S.cleared with dead := false } rs { S with dead := false }
  gens : z = true → ∀ p, p < S.log → ∀ f, reads (m ((2 + p : Nat) : Int)) = some f → f.gen ≤ S.gen
  zone : z = true → ∀ p, S.used ≤ p → p < S.log → Old S.gen S.records (m ((2 + p : Nat) : Int))
  homes : ∀ p, p < S.pages → S.over (p : Int) = none → ∃ T : LogS, T.gen < 18446744073709551616 ∧ m ((2 + S.log + p : Nat) : Int) = (T.homeF p (now p)).sector
  over : ∀ p, p < S.pages → ∀ x, S.over (p : Int) = some x → now p = x
/-- A record that is being written does no harm; nor does what is written to homes of pages that lie in the log. -/
theorem Lay.touch {z : Bool} {m m' : Int → Sec} {S : LogS} {now : Nat → Page} (h : Lay z m S now)
    (hm : ∀ j : Nat, j < 2 + S.log + S.pages → m' (j : Int) = m (j : Int) ∨ (∃ p, j = 2 + p ∧ S.used ≤ p ∧ p < S.log ∧ Old S.gen S.records (m' (j : Int)) ∧ ∀ f, reads (m' (j : Int)) = some f → f.gen ≤ S.gen) ∨ ∃ p x, j = 2 + S.log + p ∧ S.over (p : Int) = some x) : Lay z m' S now := by
  have h3 := h.log3
  have hu := h.used
  have low : ∀ j, j < 2 + S.used → m' (j : Int) = m (j : Int) := fun j hj => by
    rcases hm j (by omega) with e | ⟨p, e, k1, k2, _⟩ | ⟨p, x, e, _⟩
    · exact e
    · omega
    · omega
  refine ⟨h.log3, h.log4, h.pages1, h.pages2, h.used, h.records, h.sup, h.gen1, h.gen2, ?_, ?_, ?_, fun hz p hp f hf => ?_, fun hz p h1 h2 => ?_, fun p hp ho => ?_, h.over⟩
  · rw [low _ (by omega)]; exact h.head
  · rw [low _ (by omega)]; exact h.other
  · obtain ⟨rs, hr⟩ := h.recs
    exact ⟨rs, hr.congr fun p hp => low _ (by have : p < S.used := hp; omega)⟩
  · rcases hm (2 + p) (by omega) with e | ⟨q, e, k1, k2, k3, k4⟩ | ⟨q, x, e, _⟩
    · rw [e] at hf; exact h.gens hz p hp f hf
    · exact k4 f hf
    · omega
  · rcases hm (2 + p) (by omega) with e | ⟨q, e, k1, k2, k3, k4⟩ | ⟨q, x, e, _⟩
    · rw [e]; exact h.zone hz p h1 h2
    · exact k3
    · omega
  · rcases hm (2 + S.log + p) (by omega) with e | ⟨q, e, k1, k2, k3, k4⟩ | ⟨q, x, e, hx⟩
    · rw [e]; exact h.homes p hp ho
    · omega
    · have : q = p := by omega
      subst this
      rw [hx] at ho; cases ho
theorem Lay.congr {z : Bool} {m m' : Int → Sec} {S : LogS} {now : Nat → Page} (h : Lay z m S now) (hm : ∀ j : Nat, j < 2 + S.log + S.pages → m' (j : Int) = m (j : Int)) : Lay z m' S now := h.touch fun j hj => .inl (hm j hj)
/-- A record that is written whole. -/
theorem Lay.took {m m' : Int → Sec} {S : LogS} {now : Nat → Page} (h : Lay true m S now) {ws : Rec} (hr : LiesR m' S ws)
    (hm : ∀ j : Nat, j < 2 + S.log + S.pages → m' (j : Int) = m (j : Int) ∨ ∃ p, j = 2 + p ∧ S.used ≤ p ∧ p < S.used + ws.length + 2) : Lay true m' (S.took ws) (putNow now ws) := by
  have h3 := h.log3
  have hu := h.used
  have hrm := hr.room
  have low : ∀ j, j < 2 + S.used → m' (j : Int) = m (j : Int) := fun j hj => by
    rcases hm j (by omega) with e | ⟨p, e, k1, k2⟩
    · exact e
    · omega
  have hov := overs_now ws S.over now
  have hsup := overs_sup ws hr.lt S.over h.sup
  have hrc := h.records
  refine ⟨h.log3, h.log4, h.pages1, h.pages2, ?_, ?_, hsup, h.gen1, h.gen2, ?_, ?_, ?_, fun _ p hp f hf => ?_, fun _ p h1 h2 => ?_, fun p hp ho => ?_, fun p hp x hx => ?_⟩
  · show S.used + ws.length + 2 ≤ S.log; omega
  · show S.records + 1 ≤ S.used + ws.length + 2; omega
  · show m' ((S.gen % 2 : Nat) : Int) = S.headF.sector
    rw [low _ (by omega)]; exact h.head
  · show ∀ f, reads (m' (((S.gen + 1) % 2 : Nat) : Int)) = some f → f.gen < S.gen
    rw [low _ (by omega)]; exact h.other
  · obtain ⟨rs, hrs⟩ := h.recs
    have k := Lies.snoc (r := ws) (hrs.congr (m' := m') fun p hp => low _ (by have : p < S.used := hp; omega)) ⟨hr.n1, hr.n2, hr.room, hr.lt, hr.nodup, hr.a2, hr.a3, hr.a4⟩
    exact ⟨_, k⟩
  · change p < S.log at hp
    show f.gen ≤ S.gen
    have hgen := h.gen2
    have hrec : S.records < 18446744073709551616 := by have := h.log4; omega
    have lng := hr.n2
    rcases hm (2 + p) (by omega) with e | ⟨q, e, k1, k2⟩
    · rw [e] at hf; exact h.gens rfl p hp f hf
    · have : q = p := by omega
      subst this
      by_cases e0 : q = S.used
      · subst e0
        rw [hr.a2, reads_sector ⟨h.gen2, hrec, by show (ws.map (·.1)).length < _; rw [List.length_map]; omega⟩] at hf
        cases hf; exact Nat.le_refl _
      · by_cases e1 : q = S.used + 1 + ws.length
        · subst e1
          rw [show 2 + (S.used + 1 + ws.length) = 3 + S.used + ws.length by omega, hr.a4, reads_sector ⟨h.gen2, hrec, by show ws.length < _; omega⟩] at hf
          cases hf; exact Nat.le_refl _
        · have hk : q - S.used - 1 < ws.length := by omega
          have := hr.a3 (q - S.used - 1) _ (List.getElem?_eq_getElem hk)
          rw [show 2 + q = 3 + S.used + (q - S.used - 1) by omega, this, reads_sector ⟨h.gen2, hrec, by show q - S.used - 1 < _; omega⟩] at hf
          cases hf; exact Nat.le_refl _
  · change S.used + ws.length + 2 ≤ p at h1
    change p < S.log at h2
    show Old S.gen (S.records + 1) _
    rcases hm (2 + p) (by omega) with e | ⟨q, e, k1, k2⟩
    · rw [e]
      intro f hf
      rcases h.zone rfl p (by omega) h2 f hf with k | ⟨k, k2 | ⟨k2, _⟩⟩
      · exact .inl k
      · exact .inr ⟨k, .inl (by omega)⟩
      · exact .inr ⟨k, .inl (by omega)⟩
    · omega
  · change p < S.pages at hp
    change overs S.over ws (p : Int) = none at ho
    obtain ⟨k1, k2⟩ := (hov p (h.over p hp)).2 ho
    rcases hm (2 + S.log + p) (by omega) with e | ⟨q, e, _, _⟩
    · show ∃ T : LogS, _ ∧ m' ((2 + S.log + p : Nat) : Int) = _
      rw [e, k2]; exact h.homes p hp k1
    · omega
  · exact (hov p (h.over p hp)).1 x hx
/-- The next head, when every home is written. -/
theorem Lay.raised {z : Bool} {m m' : Int → Sec} {S : LogS} {now : Nat → Page} (h : Lay z m S now) (hg : S.gen + 1 < 18446744073709551616)
    (hh : ∀ p, p < S.pages → ∃ T : LogS, T.gen < 18446744073709551616 ∧ m ((2 + S.log + p : Nat) : Int) = (T.homeF p (now p)).sector)
    (hn : m' (((S.gen + 1) % 2 : Nat) : Int) = (⟨1, S.gen + 1, 0, 0, numsPage [S.log, S.pages]⟩ : FrameV).sector)
    (hm : ∀ j : Nat, j < 2 + S.log + S.pages → j ≠ (S.gen + 1) % 2 → m' (j : Int) = m (j : Int)) : Lay z m' { S.cleared with gen := S.gen + 1 } now := by
  have h3 := h.log3
  refine ⟨h.log3, h.log4, h.pages1, h.pages2, Nat.zero_le _, Nat.zero_le _, fun i x hx => (by cases hx), (by show 1 ≤ S.gen + 1; omega), hg, hn, ?_, ⟨[], rfl⟩, fun hz p hp f hf => ?_, fun hz p _ h2 => ?_, fun p hp _ => ?_, fun p _ x hx => (by cases hx)⟩
  · show ∀ f, reads (m' (((S.gen + 1 + 1) % 2 : Nat) : Int)) = some f → f.gen < S.gen + 1
    have e : (S.gen + 1 + 1) % 2 = S.gen % 2 := by omega
    rw [e, hm _ (by omega) (by omega), h.head, reads_sector ⟨h.gen2, by show (0 : Nat) < _; omega, by show (0 : Nat) < _; omega⟩]
    intro f hf
    cases hf
    show S.gen < S.gen + 1
    omega
  · change p < S.log at hp
    rw [hm _ (by omega) (by omega)] at hf
    have := h.gens hz p hp f hf
    show f.gen ≤ S.gen + 1
    omega
  · change p < S.log at h2
    rw [hm _ (by omega) (by omega)]
    intro f hf
    have := h.gens hz p h2 f hf
    exact .inl (show f.gen < S.gen + 1 by omega)
  · change p < S.pages at hp
    show ∃ T : LogS, _ ∧ m' ((2 + S.log + p : Nat) : Int) = _
    rw [hm _ (by omega) (by omega)]; exact hh p hp
end LogS
end Go.Cib
/-
  A log that is sound, plain: what Checkpoint, Commit and Open make of it, and what is left of it wherever the power goes; no Go in it.
-/
namespace Go.Cib
open Go Go.RowKit
namespace DiskS
theorem layA_val (s : Sec) (j : Int) : ∀ (xs : List DAct) (f : Int → Sec), (∀ t, DAct.write j t ∈ xs → t = s) → (f j = s ∨ DAct.write j s ∈ xs) → layA f xs j = s
  | [], f, _, h => by
    rcases h with h | h
    · exact h
    · cases h
  | .write i t :: xs, f, h, h2 => by
    refine layA_val s j xs _ (fun t ht => h t (List.mem_cons_of_mem _ ht)) ?_
    show (if j = i then t else f j) = s ∨ _
    by_cases e : j = i
    · subst e
      rw [if_pos rfl]
      exact .inl (h t (by simp))
    · rw [if_neg e]
      rcases h2 with h2 | h2
      · exact .inl h2
      · rcases List.mem_cons.1 h2 with h3 | h3
        · cases h3; exact absurd rfl e
        · exact .inr h3
  | .flush :: xs, f, h, h2 => by
    refine layA_val s j xs f (fun t ht => h t (List.mem_cons_of_mem _ ht)) ?_
    rcases h2 with h2 | h2
    · exact .inl h2
    · rcases List.mem_cons.1 h2 with h3 | h3
      · cases h3
      · exact .inr h3
theorem layA_not (j : Int) (xs : List DAct) (f : Int → Sec) (h : ∀ t, DAct.write j t ∉ xs) : layA f xs j = f j :=
  layA_val (f j) j xs f (fun t ht => absurd ht (h t)) (.inl rfl)
/-- Some writes and a flush. -/
theorem seg {D : DiskS} {n : Nat} (hd : D.dead = false) (ok : D.Ok) (hl : D.lasts.length = n) (hs : D.waits = fun _ => none) (xs : List DAct) (hin : InA (n : Int) (xs ++ [.flush])) :
    ((D.acts (xs ++ [.flush])).1 = 0 ∧ (D.acts (xs ++ [.flush])).2.dead = false ∧ (D.acts (xs ++ [.flush])).2.Ok ∧ (D.acts (xs ++ [.flush])).2.waits = (fun _ => none) ∧ (D.acts (xs ++ [.flush])).2.lasts.length = n ∧
      (∀ j : Int, 0 ≤ j → j < (n : Int) → (D.acts (xs ++ [.flush])).2.at_ j = layA D.at_ xs j) ∧ (D.armed = 0 → (D.acts (xs ++ [.flush])).2.armed = 0)) ∨
    ((D.acts (xs ++ [.flush])).1 = 6 ∧ (D.acts (xs ++ [.flush])).2.dead = true ∧ (D.acts (xs ++ [.flush])).2.Ok ∧ (D.acts (xs ++ [.flush])).2.lasts.length = n ∧ D.armed ≠ 0 ∧ Mix n D.at_ (fun x => x ∈ xs ++ [.flush]) (D.acts (xs ++ [.flush])).2) := by
  have hm : Mix n D.at_ (fun x => x ∈ xs ++ [.flush]) D := by have := Mix.of_still hs (fun x => x ∈ xs ++ [.flush]); rw [hl] at this; exact this
  have hl2 : (D.acts (xs ++ [.flush])).2.lasts.length = n := (length_acts _ _).trans hl
  rcases acts_go (xs ++ [.flush]) hd ok hl hin (fun x hx => hx) hm with ⟨k1, k2, k3, k4, k5, k6⟩ | ⟨k1, k2, k3, k4, k5⟩
  · refine .inl ⟨k1, k2, k3, acts_flush D xs k1, hl2, fun j h0 h1 => ?_, k6⟩
    rw [k5 j h0 h1, layA_append]; rfl
  · exact .inr ⟨k1, k2, k3, hl2, k4, k5⟩
end DiskS
namespace LogS
theorem Lay.on {z : Bool} {m : Int → Sec} {S : LogS} {now : Nat → Page} (h : Lay z m S now) (D : DiskS) : Lay z m (S.on D) now :=
  ⟨h.log3, h.log4, h.pages1, h.pages2, h.used, h.records, h.sup, h.gen1, h.gen2, h.head, h.other, by obtain ⟨rs, hr⟩ := h.recs; exact ⟨rs, hr.on D⟩, h.gens, h.zone, h.homes, h.over⟩
def live (S : LogS) (b : Bool) : LogS := { S with dead := b }
theorem Lay.live {z : Bool} {m : Int → Sec} {S : LogS} {now : Nat → Page} (h : Lay z m S now) (b : Bool) : Lay z m (S.live b) now :=
  ⟨h.log3, h.log4, h.pages1, h.pages2, h.used, h.records, h.sup, h.gen1, h.gen2, h.head, h.other, h.recs, h.gens, h.zone, h.homes, h.over⟩
theorem Lay.weak {z : Bool} {m : Int → Sec} {S : LogS} {now : Nat → Page} (h : Lay true m S now) : Lay z m S now :=
  ⟨h.log3, h.log4, h.pages1, h.pages2, h.used, h.records, h.sup, h.gen1, h.gen2, h.head, h.other, h.recs, fun _ => h.gens rfl, fun _ => h.zone rfl, h.homes, h.over⟩
/-- A log that is sound on its disk. -/
structure Sound (z : Bool) (S : LogS) (now : Nat → Page) : Prop where
  lay : Lay z S.disk.at_ S now
  dok : S.disk.Ok
  still : S.disk.waits = fun _ => none
  alive : S.disk.dead = false
  live : S.dead = false
  size : 2 + S.log + S.pages = S.disk.lasts.length
theorem Sound.ok {z : Bool} {S : LogS} {now : Nat → Page} (h : Sound z S now) : S.Ok := ⟨h.lay.log3, h.lay.log4, h.lay.pages1, h.lay.pages2, h.size, h.lay.used, h.lay.records, h.lay.gen2, h.lay.sup⟩
/-- On a disk there lies a sound log. -/
def Found (z : Bool) (k h g : Nat) (D : DiskS) (now : Nat → Page) : Prop := ∃ S : LogS, S.disk = D ∧ Sound z S now ∧ S.log = k ∧ S.pages = h ∧ S.gen ≤ g
/-- What is left when the power went. -/
structure Left (z : Bool) (k h g : Nat) (E : DiskS) (P : (Nat → Page) → Prop) : Prop where
  dead : E.dead = true
  ok : E.Ok
  len : E.lasts.length = 2 + k + h
  back : ∀ keep, ∃ now, P now ∧ Found z k h g (E.on keep).2 now
theorem Found.armed {z : Bool} {k h g : Nat} {D : DiskS} {now : Nat → Page} (f : Found z k h g D now) {a : Int} (h0 : 0 ≤ a) (h1 : a ≤ 9223372036854775807) : Found z k h g { D with armed := a } now := by
  obtain ⟨S, rfl, hs, h2, h3, h4⟩ := f
  refine ⟨S.on { S.disk with armed := a }, rfl, ⟨?_, ⟨hs.dok.some, hs.dok.size, hs.dok.sup, h0, h1⟩, hs.still, hs.alive, hs.live, hs.size⟩, h2, h3, h4⟩
  exact hs.lay.on _
theorem Left.of {z : Bool} {n k h g : Nat} {E : DiskS} {f : Int → Sec} {W : DAct → Prop} {P : (Nat → Page) → Prop} (hm : DiskS.Mix n f W E) (hd : E.dead = true) (ok : E.Ok) (hl : E.lasts.length = n) (hn : n = 2 + k + h)
    (hp : ∀ m' : Int → Sec, (∀ j : Nat, j < n → m' (j : Int) = f (j : Int) ∨ W (.write (j : Int) (m' (j : Int)))) → ∃ (S : LogS) (now : Nat → Page), P now ∧ Lay z m' S now ∧ S.log = k ∧ S.pages = h ∧ S.gen ≤ g) : Left z k h g E P := by
  refine ⟨hd, ok, hl.trans hn, fun keep => ?_⟩
  obtain ⟨k1, k2, k3, k4, k5, _, k6⟩ := hm.on hl ok hd keep
  obtain ⟨S, now, p1, p2, p3, p4, p5⟩ := hp (E.on keep).2.at_ (fun j hj => k6 (j : Int) (by omega) (by omega))
  refine ⟨now, p1, (S.on (E.on keep).2).live false, rfl, ⟨(p2.on _).live _, k3, k5, k2, rfl, ?_⟩, p3, p4, p5⟩
  show 2 + S.log + S.pages = (E.on keep).2.lasts.length
  rw [p3, p4, k4, hn]
theorem Left.imp {z : Bool} {k h g g' : Nat} {E : DiskS} {P Q : (Nat → Page) → Prop} (l : Left z k h g E P) (hpq : ∀ now, P now → Q now) (hg : g ≤ g') : Left z k h g' E Q :=
  ⟨l.dead, l.ok, l.len, fun keep => by
    obtain ⟨now, p, S, a, b, c, d, e⟩ := l.back keep
    exact ⟨now, hpq now p, S, a, b, c, d, Nat.le_trans e hg⟩⟩
theorem mem_kept {S : LogS} {q : Nat × Page} : q ∈ S.kept ↔ q.1 < S.pages ∧ S.over (q.1 : Int) = some q.2 := by
  unfold kept
  rw [List.mem_filterMap]
  constructor
  · rintro ⟨p, hp, e⟩
    cases ho : S.over (p : Int) with
    | none => rw [ho] at e; cases e
    | some x => rw [ho] at e; cases e; exact ⟨List.mem_range.1 hp, ho⟩
  · rintro ⟨h1, h2⟩
    exact ⟨q.1, List.mem_range.2 h1, by rw [h2]; rfl⟩
def homeWs (S : LogS) : List DAct := S.kept.map fun q => S.homeA q.1 q.2
theorem mem_homeWs {S : LogS} {j : Int} {s : Sec} : DAct.write j s ∈ S.homeWs ↔ ∃ p x, p < S.pages ∧ S.over (p : Int) = some x ∧ j = ((2 + S.log + p : Nat) : Int) ∧ s = (S.homeF p x).sector := by
  unfold homeWs
  rw [List.mem_map]
  constructor
  · rintro ⟨q, hq, e⟩
    obtain ⟨k1, k2⟩ := mem_kept.1 hq
    unfold homeA at e
    cases e
    exact ⟨q.1, q.2, k1, k2, rfl, rfl⟩
  · rintro ⟨p, x, h1, h2, rfl, rfl⟩
    exact ⟨(p, x), mem_kept.2 ⟨h1, h2⟩, rfl⟩
theorem write_flush {j : Int} {s : Sec} {xs : List DAct} (h : DAct.write j s ∈ xs ++ [.flush]) : DAct.write j s ∈ xs := by
  rcases List.mem_append.1 h with h | h
  · exact h
  · simp at h
/-- Every home is written. -/
theorem homes_laid {z : Bool} {m : Int → Sec} {S : LogS} {now : Nat → Page} (h : Lay z m S now) {p : Nat} (hp : p < S.pages) : ∃ T : LogS, T.gen < 18446744073709551616 ∧ DiskS.layA m S.homeWs ((2 + S.log + p : Nat) : Int) = (T.homeF p (now p)).sector := by
  cases ho : S.over (p : Int) with
  | none =>
    obtain ⟨T, t1, t2⟩ := h.homes p hp ho
    refine ⟨T, t1, ?_⟩
    rw [DiskS.layA_not, t2]
    intro t ht
    obtain ⟨q, x, _, k2, k3, _⟩ := mem_homeWs.1 ht
    have : q = p := by omega
    subst this
    rw [ho] at k2; cases k2
  | some x =>
    refine ⟨S, h.gen2, ?_⟩
    rw [h.over p hp x ho]
    refine DiskS.layA_val _ _ _ _ (fun t ht => ?_) (.inr (mem_homeWs.2 ⟨p, x, hp, ho, rfl, rfl⟩))
    obtain ⟨q, y, _, k2, k3, k4⟩ := mem_homeWs.1 ht
    have : q = p := by omega
    subst this
    rw [ho] at k2; cases k2; exact k4
theorem nextF_eq (S : LogS) (hg : S.gen + 1 < 18446744073709551616) : S.next.headF = ⟨1, S.gen + 1, 0, 0, numsPage [S.log, S.pages]⟩ := by
  show (⟨1, (S.gen + 1) % 18446744073709551616, 0, 0, numsPage [S.log, S.pages]⟩ : FrameV) = _
  rw [Nat.mod_eq_of_lt hg]
theorem next_gen (S : LogS) (hg : S.gen + 1 < 18446744073709551616) : S.next.gen = S.gen + 1 := Nat.mod_eq_of_lt hg
def headW (S : LogS) : DAct := .write (((S.gen + 1) % 2 : Nat) : Int) (⟨1, S.gen + 1, 0, 0, numsPage [S.log, S.pages]⟩ : FrameV).sector
theorem nextAs (S : LogS) (hg : S.gen + 1 < 18446744073709551616) : S.next.headAs = [S.headW] ++ [.flush] := by
  unfold headAs headW
  rw [nextF_eq S hg, next_gen S hg]
  rfl
/-- Checkpoint. -/
theorem Sound.checkpoint {z : Bool} {S : LogS} {now : Nat → Page} (h : Sound z S now) (hg : S.gen + 1 < 18446744073709551616) :
    (S.checkpoint.1 = 0 ∧ Sound z S.checkpoint.2 now ∧ S.checkpoint.2.log = S.log ∧ S.checkpoint.2.pages = S.pages ∧ S.checkpoint.2.gen ≤ S.gen + 1 ∧ S.checkpoint.2.used = 0 ∧ (S.disk.armed = 0 → S.checkpoint.2.disk.armed = 0) ∧ (S.used ≠ 0 → S.checkpoint.2.over = fun _ => none)) ∨
    (S.checkpoint.1 = 6 ∧ S.checkpoint.2.dead = true ∧ S.checkpoint.2.log = S.log ∧ S.checkpoint.2.pages = S.pages ∧ S.disk.armed ≠ 0 ∧ Left z S.log S.pages (S.gen + 1) S.checkpoint.2.disk (· = now)) := by
  have hl := h.lay
  have h3 := hl.log3
  by_cases hu : S.used = 0
  · have e : S.checkpoint = (0, S) := by
      unfold LogS.checkpoint; rw [if_neg (by simp [h.live]), if_pos hu]
    rw [e]
    exact .inl ⟨rfl, h, rfl, rfl, Nat.le_succ _, hu, fun h => h, fun h2 => absurd hu h2⟩
  have inH : DiskS.InA ((2 + S.log + S.pages : Nat) : Int) (S.homeWs ++ [.flush]) := by
    intro i s hi
    obtain ⟨p, x, k1, _, k3, _⟩ := mem_homeWs.1 (write_flush hi)
    omega
  have eH : S.homeAs = S.homeWs ++ [.flush] := rfl
  rcases DiskS.seg h.alive h.dok h.size.symm h.still S.homeWs inH with ⟨a1, a2, a3, a4, a5, a6, a7⟩ | ⟨a1, a2, a3, a4, a5, a6⟩
  · generalize hA : S.disk.acts (S.homeWs ++ [.flush]) = A at a1 a2 a3 a4 a5 a6 a7
    obtain ⟨A1, D1⟩ := A
    simp only at a1 a2 a3 a4 a5 a6 a7
    subst a1
    have inR : DiskS.InA ((2 + S.log + S.pages : Nat) : Int) ([S.headW] ++ [.flush]) := by
      intro i s hi
      have := write_flush hi
      simp only [List.mem_singleton] at this
      unfold headW at this
      cases this
      omega
    have lay1 : Lay z D1.at_ (S.on D1) now := by
      refine (hl.touch fun j hj => ?_).on D1
      rw [a6 (j : Int) (by omega) (by omega)]
      by_cases hj2 : ∃ p x, j = 2 + S.log + p ∧ S.over (p : Int) = some x
      · exact .inr (.inr hj2)
      · refine .inl (DiskS.layA_not _ _ _ fun t ht => hj2 ?_)
        obtain ⟨p, x, k1, k2, k3, _⟩ := mem_homeWs.1 ht
        exact ⟨p, x, by omega, k2⟩
    have homes1 : ∀ p, p < S.pages → ∃ T : LogS, T.gen < 18446744073709551616 ∧ D1.at_ ((2 + S.log + p : Nat) : Int) = (T.homeF p (now p)).sector := by
      intro p hp
      rw [a6 _ (by omega) (by omega)]
      exact homes_laid hl hp
    have eR : ({ S with disk := D1 } : LogS).raise = ((D1.acts ([S.headW] ++ [.flush])).1, { S.next with disk := (D1.acts ([S.headW] ++ [.flush])).2 }) := by
      unfold raise
      have : ({ S with disk := D1 } : LogS).next.headAs = S.next.headAs := rfl
      rw [this, nextAs S hg]
      rfl
    have eC : S.checkpoint = (if (D1.acts ([S.headW] ++ [.flush])).1 ≠ 0 then ((D1.acts ([S.headW] ++ [.flush])).1, ({ S.next with disk := (D1.acts ([S.headW] ++ [.flush])).2 } : LogS).told ((D1.acts ([S.headW] ++ [.flush])).1, (D1.acts ([S.headW] ++ [.flush])).2)) else (0, ({ S.next with disk := (D1.acts ([S.headW] ++ [.flush])).2 } : LogS).cleared)) := by
      unfold LogS.checkpoint
      rw [if_neg (by simp [h.live]), if_neg hu, eH, hA, if_neg (by simp)]
      simp only
      rw [eR]
    have hW : ∀ (m' : Int → Sec), m' (((S.gen + 1) % 2 : Nat) : Int) = (⟨1, S.gen + 1, 0, 0, numsPage [S.log, S.pages]⟩ : FrameV).sector → (∀ j : Nat, j < 2 + S.log + S.pages → j ≠ (S.gen + 1) % 2 → m' (j : Int) = D1.at_ (j : Int)) → Lay z m' { (S.on D1).cleared with gen := S.gen + 1 } now :=
      fun m' k1 k2 => Lay.raised (S := S.on D1) lay1 hg homes1 k1 k2
    rcases DiskS.seg a2 a3 a5 a4 [S.headW] inR with ⟨b1, b2, b3, b4, b5, b6, b7⟩ | ⟨b1, b2, b3, b4, b5, b6⟩
    · rw [eC, if_neg (by rw [b1]; simp)]
      generalize hB : D1.acts ([S.headW] ++ [.flush]) = B at b1 b2 b3 b4 b5 b6 b7
      obtain ⟨B1, D2⟩ := B
      simp only at b1 b2 b3 b4 b5 b6 b7
      have l2 : Lay z D2.at_ { (S.on D1).cleared with gen := S.gen + 1 } now := by
        refine hW D2.at_ ?_ fun j hj hne => ?_
        · rw [b6 _ (by omega) (by omega)]
          show (if (((S.gen + 1) % 2 : Nat) : Int) = (((S.gen + 1) % 2 : Nat) : Int) then _ else _) = _
          rw [if_pos rfl]
        · rw [b6 _ (by omega) (by omega)]
          show (if (j : Int) = (((S.gen + 1) % 2 : Nat) : Int) then _ else _) = _
          rw [if_neg (by omega)]
      have eL : ({ S.next with disk := D2 } : LogS).cleared = ({ (S.on D1).cleared with gen := S.gen + 1 } : LogS).on D2 := by
        have e : S.next = { S with gen := S.gen + 1 } := by unfold LogS.next; rw [Nat.mod_eq_of_lt hg]
        rw [e]; rfl
      have s2 : Sound z ({ S.next with disk := D2 } : LogS).cleared now := ⟨by rw [eL]; exact l2.on D2, b3, b4, b2, h.live, b5.symm⟩
      exact .inl ⟨rfl, s2, rfl, rfl, by show S.next.gen ≤ _; rw [next_gen S hg]; exact Nat.le_refl _, rfl, fun h => b7 (a7 h), fun _ => rfl⟩
    · rw [eC, if_pos (by rw [b1]; decide)]
      have b5' : S.disk.armed ≠ 0 := fun h => b5 (a7 h)
      refine .inr ⟨b1, ?_, rfl, rfl, b5', ?_⟩
      · show (S.dead || ((D1.acts ([S.headW] ++ [.flush])).1 == 6)) = true
        rw [b1]; simp
      · show Left z S.log S.pages (S.gen + 1) (D1.acts ([S.headW] ++ [.flush])).2 _
        refine Left.of b6 b2 b3 b4 rfl fun m' hm' => ?_
        by_cases hn : m' (((S.gen + 1) % 2 : Nat) : Int) = (⟨1, S.gen + 1, 0, 0, numsPage [S.log, S.pages]⟩ : FrameV).sector
        · refine ⟨_, now, rfl, hW m' hn fun j hj hne => ?_, rfl, rfl, Nat.le_refl _⟩
          rcases hm' j hj with k | k
          · exact k
          · have := write_flush k
            simp only [List.mem_singleton] at this
            unfold headW at this
            injection this with i1 i2
            omega
        · refine ⟨S.on D1, now, rfl, lay1.congr fun j hj => ?_, rfl, rfl, Nat.le_succ _⟩
          rcases hm' j hj with k | k
          · exact k
          · have := write_flush k
            simp only [List.mem_singleton] at this
            unfold headW at this
            injection this with i1 i2
            have : j = (S.gen + 1) % 2 := by omega
            subst this
            exact absurd i2 hn
  · have eC : S.checkpoint = ((S.disk.acts (S.homeWs ++ [.flush])).1, S.told (S.disk.acts (S.homeWs ++ [.flush]))) := by
      unfold LogS.checkpoint
      rw [if_neg (by simp [h.live]), if_neg hu, eH, if_pos (by rw [a1]; decide)]
    rw [eC]
    refine .inr ⟨a1, ?_, rfl, rfl, a5, ?_⟩
    · show (S.dead || ((S.disk.acts (S.homeWs ++ [.flush])).1 == 6)) = true
      rw [a1]; simp
    · show Left z S.log S.pages (S.gen + 1) (S.disk.acts (S.homeWs ++ [.flush])).2 _
      refine Left.of a6 a2 a3 a4 rfl fun m' hm' => ⟨S, now, rfl, hl.touch fun j hj => ?_, rfl, rfl, Nat.le_succ _⟩
      rcases hm' j hj with k | k
      · exact .inl k
      · obtain ⟨p, x, k1, k2, k3, _⟩ := mem_homeWs.1 (write_flush k)
        exact .inr (.inr ⟨p, x, by omega, k2⟩)
end LogS
end Go.Cib
/-
  A log that is sound, plain: Commit, Open and Read; no Go in it.
-/
namespace Go.Cib
open Go Go.RowKit
namespace LogS
theorem mem_puts {S : LogS} {j : Int} {s : Sec} : ∀ {fs : List FrameV} {pl : Nat}, DAct.write j s ∈ S.putsA pl fs → ∃ i f, fs[i]? = some f ∧ j = ((pl + i : Nat) : Int) ∧ s = (S.rec_ f).sector
  | [], pl, h => by simp [putsA] at h
  | x :: fs, pl, h => by
    rw [putsA] at h
    rcases List.mem_cons.1 h with h | h
    · cases h; exact ⟨0, x, rfl, rfl, rfl⟩
    · obtain ⟨i, f, k1, k2, k3⟩ := mem_puts h
      exact ⟨i + 1, f, by rw [List.getElem?_cons_succ]; exact k1, by omega, k3⟩
theorem length_frames (ws : Rec) : (recFrames ws).length = ws.length + 1 := by unfold recFrames imgFrames; simp
theorem frames_zero (ws : Rec) : (recFrames ws)[0]? = some (frame2 (ws.map (·.1))) := rfl
theorem frames_succ {ws : Rec} {k : Nat} {q : Nat × Page} (h : ws[k]? = some q) : (recFrames ws)[k + 1]? = some (frame3 k q.2) := by
  unfold recFrames imgFrames
  rw [List.getElem?_cons_succ, List.getElem?_map, List.getElem?_zipIdx, h]
  simp
theorem frames_cases {ws : Rec} {i : Nat} {f : FrameV} (h : (recFrames ws)[i]? = some f) : i < ws.length + 1 ∧ f.kind ≠ 4 ∧ (f = frame2 (ws.map (·.1)) ∨ ∃ k x, k < ws.length ∧ f = frame3 k x) := by
  have hi : i < ws.length + 1 := by rw [← length_frames ws]; exact (List.getElem?_eq_some_iff.1 h).1
  refine ⟨hi, ?_⟩
  cases i with
  | zero => rw [frames_zero] at h; cases h; exact ⟨show (2 : UInt8) ≠ 4 by decide, .inl rfl⟩
  | succ k =>
    have hk : k < ws.length := by omega
    rw [frames_succ (List.getElem?_eq_getElem hk)] at h
    cases h
    exact ⟨show (3 : UInt8) ≠ 4 by decide, .inr ⟨k, _, hk, rfl⟩⟩
/-- What may be written as one record. -/
structure Fit (S : LogS) (ws : Rec) : Prop where
  n1 : 1 ≤ ws.length
  n2 : ws.length ≤ 120
  room : S.used + ws.length + 2 ≤ S.log
  lt : ∀ q ∈ ws, q.1 < S.pages
  nodup : (ws.map (·.1)).Nodup
theorem Sound.write {S : LogS} {now : Nat → Page} (h : Sound true S now) {ws : Rec} (hf : Fit S ws) :
    ((S.write ws).1 = 0 ∧ Sound true (S.write ws).2 (putNow now ws) ∧ (S.write ws).2.log = S.log ∧ (S.write ws).2.pages = S.pages ∧ (S.write ws).2.gen = S.gen ∧ (S.disk.armed = 0 → (S.write ws).2.disk.armed = 0)) ∨
    ((S.write ws).1 = 6 ∧ (S.write ws).2.dead = true ∧ (S.write ws).2.log = S.log ∧ (S.write ws).2.pages = S.pages ∧ S.disk.armed ≠ 0 ∧ Left true S.log S.pages S.gen (S.write ws).2.disk (fun n => n = now ∨ n = putNow now ws)) := by
  have hl := h.lay
  have h3 := hl.log3
  have hn1 := hf.n1; have hn2 := hf.n2; have hrm := hf.room; have hrc := hl.records; have h4 := hl.log4
  have hrec : S.records < 18446744073709551616 := by omega
  have inA1 : DiskS.InA ((2 + S.log + S.pages : Nat) : Int) (S.putsA (2 + S.used) (recFrames ws) ++ [.flush]) := by
    intro i s hi
    exact inA_puts S _ (recFrames ws) (2 + S.used) (by rw [length_frames]; omega) i s (write_flush hi)
  have inB1 : DiskS.InA ((2 + S.log + S.pages : Nat) : Int) (S.putsA (3 + S.used + ws.length) [frame4 ws.length] ++ [.flush]) := by
    intro i s hi
    exact inA_puts S _ [frame4 ws.length] (3 + S.used + ws.length) (by rw [List.length_singleton]; omega) i s (write_flush hi)
  have eW : S.writeAs ws = (S.putsA (2 + S.used) (recFrames ws) ++ [.flush]) ++ (S.putsA (3 + S.used + ws.length) [frame4 ws.length] ++ [.flush]) := by
    unfold writeAs; rw [List.append_assoc]; rfl
  have okf : ∀ (i : Nat) (f : FrameV), (recFrames ws)[i]? = some f → (S.rec_ f).Ok := by
    intro i f hi
    obtain ⟨_, _, k3 | ⟨k, x, k3, k4⟩⟩ := frames_cases hi
    · subst k3; exact ⟨hl.gen2, hrec, by show (ws.map (·.1)).length < _; rw [List.length_map]; omega⟩
    · subst k4; exact ⟨hl.gen2, hrec, by show k < _; omega⟩
  -- what a frame of the first part says is nothing new
  have oldf : ∀ (i : Nat) (f : FrameV), (recFrames ws)[i]? = some f → Old S.gen S.records (S.rec_ f).sector ∧ ∀ f', reads (S.rec_ f).sector = some f' → f'.gen ≤ S.gen := by
    intro i f hi
    have e := reads_sector (okf i f hi)
    have hk := (frames_cases hi).2.1
    constructor
    · intro f' hf'; rw [e] at hf'; cases hf'; exact .inr ⟨rfl, .inr ⟨rfl, hk⟩⟩
    · intro f' hf'; rw [e] at hf'; cases hf'; exact Nat.le_refl _
  have touch1 : ∀ m' : Int → Sec, (∀ j : Nat, j < 2 + S.log + S.pages → m' (j : Int) = S.disk.at_ (j : Int) ∨ DAct.write (j : Int) (m' (j : Int)) ∈ S.putsA (2 + S.used) (recFrames ws)) → Lay true m' S now := by
    intro m' hm'
    refine hl.touch fun j hj => ?_
    rcases hm' j hj with k | k
    · exact .inl k
    · obtain ⟨i, f, k1, k2, k3⟩ := mem_puts k
      have := (frames_cases k1).1
      rw [k3]
      exact .inr (.inl ⟨S.used + i, by omega, by omega, by omega, oldf i f k1⟩)
  rcases DiskS.seg h.alive h.dok h.size.symm h.still (S.putsA (2 + S.used) (recFrames ws)) inA1 with ⟨a1, a2, a3, a4, a5, a6, a7⟩ | ⟨a1, a2, a3, a4, a5, a6⟩
  · have eA : S.disk.acts (S.writeAs ws) = (S.disk.acts (S.putsA (2 + S.used) (recFrames ws) ++ [.flush])).2.acts (S.putsA (3 + S.used + ws.length) [frame4 ws.length] ++ [.flush]) := by
      rw [eW, DiskS.acts_append, if_pos a1]
    generalize (S.disk.acts (S.putsA (2 + S.used) (recFrames ws) ++ [.flush])).2 = D1 at a2 a3 a4 a5 a6 a7 eA
    have at1 : ∀ j : Nat, j < 2 + S.log + S.pages → D1.at_ (j : Int) = DiskS.layA S.disk.at_ (S.putsA (2 + S.used) (recFrames ws)) (j : Int) := fun j hj => a6 _ (by omega) (by omega)
    have at2 : ∀ j : Nat, j < 2 + S.log + S.pages → D1.at_ (j : Int) = match (recFrames ws)[((j : Int) - ((2 + S.used : Nat) : Int)).toNat]? with | some x => if ((2 + S.used : Nat) : Int) ≤ (j : Int) then (S.rec_ x).sector else S.disk.at_ (j : Int) | none => S.disk.at_ (j : Int) := fun j hj => by
      exact (at1 j hj).trans (layA_puts S (recFrames ws) (2 + S.used) S.disk.at_ (j : Int))
    have at3 : ∀ (i : Nat) (f : FrameV), (recFrames ws)[i]? = some f → D1.at_ ((2 + S.used + i : Nat) : Int) = (S.rec_ f).sector := fun i f hi => by
      have := (frames_cases hi).1
      rw [at2 _ (by omega), show (((2 + S.used + i : Nat) : Int) - ((2 + S.used : Nat) : Int)).toNat = i by omega, hi]
      simp only
      rw [if_pos (by omega)]
    have at4 : ∀ j : Nat, j < 2 + S.log + S.pages → (j < 2 + S.used ∨ 2 + S.used + ws.length + 1 ≤ j) → D1.at_ (j : Int) = S.disk.at_ (j : Int) := fun j hj hh => by
      rw [at2 j hj]
      split
      · rename_i x hx
        by_cases hc : ((2 + S.used : Nat) : Int) ≤ (j : Int)
        · have := (frames_cases hx).1
          omega
        · rw [if_neg hc]
      · rfl
    have lay1 : Lay true D1.at_ S now := touch1 D1.at_ fun j hj => by
      by_cases hc : j < 2 + S.used ∨ 2 + S.used + ws.length + 1 ≤ j
      · exact .inl (at4 j hj hc)
      · refine .inr ?_
        have hi : j - (2 + S.used) < (recFrames ws).length := by rw [length_frames]; omega
        have hg := List.getElem?_eq_getElem hi
        have := at3 _ _ hg
        rw [show 2 + S.used + (j - (2 + S.used)) = j by omega] at this
        rw [this]
        have key : ∀ (fs : List FrameV) (pl i : Nat) (f : FrameV), fs[i]? = some f → DAct.write ((pl + i : Nat) : Int) (S.rec_ f).sector ∈ S.putsA pl fs := by
          intro fs
          induction fs with
          | nil => intro pl i f h; cases h
          | cons y fs ih =>
            intro pl i f h
            rw [putsA]
            cases i with
            | zero => cases h; exact List.mem_cons_self ..
            | succ i =>
              rw [show pl + (i + 1) = pl + 1 + i by omega]
              exact List.mem_cons_of_mem _ (ih (pl + 1) i f h)
        have := key (recFrames ws) (2 + S.used) _ _ hg
        rw [show 2 + S.used + (j - (2 + S.used)) = j by omega] at this
        exact this
    -- the record is whole when its end lies there
    have whole : ∀ m' : Int → Sec, m' ((3 + S.used + ws.length : Nat) : Int) = (S.rec_ (frame4 ws.length)).sector → (∀ j : Nat, j < 2 + S.log + S.pages → j ≠ 3 + S.used + ws.length → m' (j : Int) = D1.at_ (j : Int)) → Lay true m' (S.took ws) (putNow now ws) := by
      intro m' k1 k2
      have r : LiesR m' S ws := by
        refine ⟨hf.n1, hf.n2, hf.room, hf.lt, hf.nodup, ?_, fun k q hk => ?_, k1⟩
        · rw [k2 _ (by omega) (by omega)]
          exact at3 0 _ (frames_zero ws)
        · have hkl := (List.getElem?_eq_some_iff.1 hk).1
          rw [k2 _ (by omega) (by omega), show 3 + S.used + k = 2 + S.used + (k + 1) by omega]
          exact at3 (k + 1) _ (frames_succ hk)
      refine Lay.took lay1 r fun j hj => ?_
      by_cases e : j = 3 + S.used + ws.length
      · exact .inr ⟨1 + S.used + ws.length, by omega, by omega, by omega⟩
      · exact .inl (k2 j hj e)
    have memB : ∀ {j : Int} {s : Sec}, DAct.write j s ∈ S.putsA (3 + S.used + ws.length) [frame4 ws.length] ++ [.flush] → j = ((3 + S.used + ws.length : Nat) : Int) ∧ s = (S.rec_ (frame4 ws.length)).sector := by
      intro j s hm
      obtain ⟨i, f, k1, k2, k3⟩ := mem_puts (write_flush hm)
      cases i with
      | zero => cases k1; exact ⟨k2, k3⟩
      | succ i => cases k1
    rcases DiskS.seg a2 a3 a5 a4 (S.putsA (3 + S.used + ws.length) [frame4 ws.length]) inB1 with ⟨b1, b2, b3, b4, b5, b6, b7⟩ | ⟨b1, b2, b3, b4, b5, b6⟩
    · have eS : S.write ws = (0, { S with disk := (S.disk.acts (S.writeAs ws)).2 }.took ws) := by
        unfold LogS.write; rw [if_neg (by rw [eA, b1]; simp)]
      rw [eA] at eS
      generalize (D1.acts (S.putsA (3 + S.used + ws.length) [frame4 ws.length] ++ [.flush])).2 = D2 at b2 b3 b4 b5 b6 b7 eS
      rw [eS]
      have l2 : Lay true D2.at_ (S.took ws) (putNow now ws) := by
        refine whole D2.at_ ?_ fun j hj hne => ?_
        · rw [b6 _ (by omega) (by omega)]
          show (if _ = _ then _ else _) = _
          rw [if_pos rfl]
        · rw [b6 _ (by omega) (by omega)]
          refine DiskS.layA_not _ _ _ fun t ht => ?_
          have := (memB (List.mem_append_left _ ht)).1
          omega
      exact .inl ⟨rfl, ⟨l2.on D2, b3, b4, b2, h.live, b5.symm⟩, rfl, rfl, rfl, fun h => b7 (a7 h)⟩
    · have eS : S.write ws = ((S.disk.acts (S.writeAs ws)).1, S.told (S.disk.acts (S.writeAs ws))) := by
        unfold LogS.write; rw [if_pos (by rw [eA, b1]; decide)]
      rw [eA] at eS
      rw [eS]
      refine .inr ⟨b1, ?_, rfl, rfl, fun h => b5 (a7 h), ?_⟩
      · show (S.dead || (_ == (6 : Int))) = true
        rw [b1]; simp
      · show Left true S.log S.pages S.gen (D1.acts _).2 _
        refine Left.of b6 b2 b3 b4 rfl fun m' hm' => ?_
        by_cases hn : m' ((3 + S.used + ws.length : Nat) : Int) = (S.rec_ (frame4 ws.length)).sector
        · refine ⟨S.took ws, putNow now ws, .inr rfl, whole m' hn fun j hj hne => ?_, rfl, rfl, Nat.le_refl _⟩
          rcases hm' j hj with k | k
          · exact k
          · have := (memB k).1; omega
        · refine ⟨S, now, .inl rfl, lay1.congr fun j hj => ?_, rfl, rfl, Nat.le_refl _⟩
          rcases hm' j hj with k | k
          · exact k
          · obtain ⟨k1, k2⟩ := memB k
            have : j = 3 + S.used + ws.length := by omega
            subst this
            exact absurd k2 hn
  · have eA : S.disk.acts (S.writeAs ws) = S.disk.acts (S.putsA (2 + S.used) (recFrames ws) ++ [.flush]) := by
      rw [eW, DiskS.acts_append, if_neg (by rw [a1]; decide)]
    have eS : S.write ws = ((S.disk.acts (S.writeAs ws)).1, S.told (S.disk.acts (S.writeAs ws))) := by
      unfold LogS.write; rw [if_pos (by rw [eA, a1]; decide)]
    rw [eA] at eS
    rw [eS]
    refine .inr ⟨a1, ?_, rfl, rfl, a5, ?_⟩
    · show (S.dead || (_ == (6 : Int))) = true
      rw [a1]; simp
    · show Left true S.log S.pages S.gen (S.disk.acts _).2 _
      refine Left.of a6 a2 a3 a4 rfl fun m' hm' => ⟨S, now, .inl rfl, touch1 m' fun j hj => ?_, rfl, rfl, Nat.le_refl _⟩
      rcases hm' j hj with k | k
      · exact .inl k
      · exact .inr (write_flush k)
end LogS
end Go.Cib
/-
  The log's works, plain: two pages that are written at once are there behind a failure of the power.
-/
namespace Go.Cib
open Go Go.RowKit
namespace LogS
/-- A head that counts is chosen. -/
theorem chooses_of {S : LogS} {i : Nat} {g log pages : Nat} (hg : S.gen < g) (hg2 : g < 18446744073709551616) (hi : g % 2 = i) (h1 : 3 ≤ log) (h2 : log ≤ 4000) (h3 : 1 ≤ pages) (h4 : pages ≤ 16384) (h5 : 2 + log + pages = S.disk.lasts.length) :
    S.chooses i (⟨1, g, 0, 0, numsPage [log, pages]⟩ : FrameV).sector = { S with gen := g, log := log, pages := pages } := by
  have hok : (⟨1, g, 0, 0, numsPage [log, pages]⟩ : FrameV).Ok := ⟨hg2, by show (0 : Nat) < _; omega, by show (0 : Nat) < _; omega⟩
  have n0 : numAt (numsPage [log, pages]) 0 = log := numAt_nums (l := [log, pages]) (by simp) rfl (by omega)
  have n1 : numAt (numsPage [log, pages]) 1 = pages := numAt_nums (l := [log, pages]) (by simp) rfl (by omega)
  unfold chooses
  rw [parse_sector hok]
  have hc : S.counts i ⟨1, g, 0, 0, numsPage [log, pages]⟩ := by
    exact ⟨rfl, rfl, rfl, hg, hi, by show 3 ≤ numAt (numsPage [log, pages]) 0; rw [n0]; exact h1, by show numAt (numsPage [log, pages]) 0 ≤ 4000; rw [n0]; exact h2, by show 1 ≤ numAt (numsPage [log, pages]) 1; rw [n1]; exact h3,
      by show numAt (numsPage [log, pages]) 1 ≤ 16384; rw [n1]; exact h4, by show 2 + numAt (numsPage [log, pages]) 0 + numAt (numsPage [log, pages]) 1 = _; rw [n0, n1]; exact h5, by show numsPage [log, pages] = numsPage [numAt (numsPage [log, pages]) 0, numAt (numsPage [log, pages]) 1]; rw [n0, n1]⟩
  rw [if_pos ⟨rfl, hc⟩]
  simp only [n0, n1]
theorem chooses_zero (S : LogS) (i : Nat) : S.chooses i (Arr.zero : Sec) = S := by
  have h := reads_zero
  unfold reads at h
  split at h
  · cases h
  · rename_i hn
    unfold chooses
    rw [if_neg (fun hh => hn hh.1)]
theorem headF_eq (S : LogS) : S.headF = ⟨1, S.gen, 0, 0, numsPage [S.log, S.pages]⟩ := rfl
/-- A home that is read. -/
theorem pageOf_home {S : LogS} {p : Nat} (x : Page) (hg : S.gen < 18446744073709551616) (hp : p < 16384) : pageOf p (S.homeF p x).sector = (x, 0) := by
  have hok : (S.homeF p x).Ok := ⟨hg, by show (0 : Nat) < _; omega, by show p < _; omega⟩
  unfold pageOf
  rw [parse_sector hok, if_pos ⟨rfl, rfl, rfl, rfl⟩]
  rfl
theorem read_home {S : LogS} (hd : S.dead = false) (hc : S.disk.Calm) {p : Nat} {x : Page} (hp : p < S.pages) (hs : 2 + S.log + S.pages = S.disk.lasts.length) (hov : S.over (p : Int) = none) {T : LogS} (hT : T.gen < 18446744073709551616) (hpl : p < 16384)
    (hat : S.disk.at_ ((2 + S.log + p : Nat) : Int) = (T.homeF p x).sector) : S.read (p : Int) = ((x, 0), S) := by
  have hr : S.disk.read (2 + S.log + p) = (S.disk.at_ ((2 + S.log + p : Nat) : Int), 0) := by
    have := hc.read (i := ((2 + S.log + p : Nat) : Int)) (by omega) (by omega)
    exact this
  unfold read
  rw [if_neg (by simp [hd]), if_neg (by omega), hov]
  simp only [hr, hat, Int.toNat_natCast]
  rw [if_neg (by simp), pageOf_home x hT hpl]
end LogS
namespace WorksP
def D0 : DiskS := DiskS.made 12
theorem calm0 : D0.Calm := ⟨rfl, rfl, DiskS.Ok.made (by decide) (by decide)⟩
def L0 : LogS := LogS.fresh D0 5
theorem in1 : DiskS.InA 12 (LogS.fmtA 5) := by
  intro i s h
  unfold LogS.fmtA at h
  rcases List.mem_append.1 h with h | h
  · obtain ⟨k, hk, e⟩ := List.mem_map.1 h
    cases e
    have := List.mem_range.1 hk
    omega
  · simp at h
theorem in2 : DiskS.InA 12 L0.fmtB := by
  intro i s h
  unfold LogS.fmtB at h
  rcases List.mem_append.1 h with h | h
  · obtain ⟨k, hk, e⟩ := List.mem_map.1 h
    cases e
    have : k < 5 := List.mem_range.1 hk
    show 0 ≤ ((2 + 5 + k : Nat) : Int) ∧ ((2 + 5 + k : Nat) : Int) < 12
    omega
  · simp at h
theorem in3 : DiskS.InA 12 L0.headAs := by
  intro i s h
  unfold LogS.headAs at h
  simp at h
  rw [h.1]
  exact ⟨by decide, by decide⟩
def D1 : DiskS := (LogS.format D0 5).2
def all1 : List DAct := LogS.fmtA 5 ++ L0.fmtB ++ L0.headAs
theorem fmt : (LogS.format D0 5).1 = 0 ∧ D1.Calm ∧ D1.lasts.length = 12 ∧ D1.waits = (fun _ => none) ∧ ∀ (j : Int), 0 ≤ j → j < 12 → D1.at_ j = DiskS.layA D0.at_ all1 j := by
  have hl0 : D0.lasts.length = 12 := rfl
  obtain ⟨a1, a2, a3⟩ := calm0.acts (LogS.fmtA 5) (by rw [hl0]; exact in1)
  have l1 : (D0.acts (LogS.fmtA 5)).2.lasts.length = 12 := by rw [DiskS.length_acts]; rfl
  obtain ⟨b1, b2, b3⟩ := a2.acts L0.fmtB (by rw [l1]; exact in2)
  have l2 : ((D0.acts (LogS.fmtA 5)).2.acts L0.fmtB).2.lasts.length = 12 := by rw [DiskS.length_acts]; exact l1
  obtain ⟨c1, c2, c3⟩ := b2.acts L0.headAs (by rw [l2]; exact in3)
  have e : LogS.format D0 5 = ((D0.acts (LogS.fmtA 5)).2.acts L0.fmtB).2.acts L0.headAs := by
    unfold LogS.format
    rw [if_neg (by decide), if_neg (by decide), if_neg (by rw [hl0]; decide)]
    rw [show (5 : Int).toNat = 5 from rfl]
    rw [if_neg (by rw [a1]; simp), if_neg (by rw [show LogS.fresh D0 5 = L0 from rfl, b1]; simp)]
    rfl
  have hw : (((D0.acts (LogS.fmtA 5)).2.acts L0.fmtB).2.acts L0.headAs).2.waits = fun _ => none := by
    have : L0.headAs = [.write ((L0.gen % 2 : Nat) : Int) L0.headF.sector] ++ [.flush] := rfl
    rw [this]
    refine DiskS.flush_waits b2 _ ?_
    rw [l2]
    intro i s h
    exact in3 i s (by rw [this]; exact List.mem_append_left _ h)
  unfold D1
  rw [e]
  refine ⟨c1, c2, by rw [DiskS.length_acts]; exact l2, hw, fun j h0 h1 => ?_⟩
  rw [c3 j h0 (by rw [l2]; exact h1)]
  unfold all1
  rw [DiskS.layA_append, DiskS.layA_append]
  refine DiskS.layA_congr (n := 12) (fun j g0 g1 => ?_) _ j h0 h1
  rw [b3 j g0 (by rw [l1]; exact g1)]
  exact DiskS.layA_congr (n := 12) (fun j k0 k1 => a3 j k0 (by rw [hl0]; exact k1)) _ j g0 g1
def S1 : LogS := ⟨D1, 5, 5, 1, 0, 0, fun _ => none, false⟩
theorem at1 (j : Nat) (hj : j < 12) : D1.at_ (j : Int) = DiskS.layA D0.at_ all1 (j : Int) := fmt.2.2.2.2 j (by omega) (by omega)
theorem a0 : D1.at_ 0 = Arr.zero := (at1 0 (by decide)).trans rfl
theorem a1 : D1.at_ 1 = L0.headF.sector := (at1 1 (by decide)).trans rfl
theorem a2 : D1.at_ 2 = Arr.zero := (at1 2 (by decide)).trans rfl
theorem a6 : D1.at_ 6 = Arr.zero := (at1 6 (by decide)).trans rfl
theorem a9 : D1.at_ 9 = (L0.homeF 2 Arr.zero).sector := (at1 9 (by decide)).trans rfl
theorem read1 (j : Nat) (hj : j < 12) : D1.read (j : Int) = (D1.at_ (j : Int), 0) := fmt.2.1.read (by omega) (by rw [fmt.2.2.1]; omega)
/-- The heads of a disk on which the sectors 0 and 1 are as Format laid them. -/
theorem heads_of {D : DiskS} (hc : D.Calm) (hl : D.lasts.length = 12) (h0 : D.at_ 0 = Arr.zero) (h1 : D.at_ 1 = L0.headF.sector) : LogS.heads D = ⟨D, 5, 5, 1, 0, 0, fun _ => none, false⟩ := by
  have r0 : D.read 0 = (Arr.zero, 0) := by rw [hc.read (by decide) (by rw [hl]; decide), h0]
  have r1 : D.read 1 = (L0.headF.sector, 0) := by rw [hc.read (by decide) (by rw [hl]; decide), h1]
  unfold LogS.heads
  rw [r0, r1]
  simp only
  rw [LogS.chooses_zero]
  have e : L0.headF = ⟨1, 1, 0, 0, numsPage [5, 5]⟩ := rfl
  rw [e, LogS.chooses_of (S := LogS.blank D) (g := 1) (log := 5) (pages := 5) (show (0 : Nat) < 1 by decide) (by decide) (by decide) (by decide) (by decide) (by decide) (by decide) (by rw [show (LogS.blank D).disk = D from rfl, hl])]
  rfl
theorem open1 : LogS.opens D1 = (0, some S1, D1) := by
  obtain ⟨_, hc, hl, _, _⟩ := fmt
  have hh := heads_of hc hl a0 a1
  have e0 : (D1.read 0).2 = 0 := by rw [hc.read (by decide) (by rw [hl]; decide)]
  have e1 : (D1.read 1).2 = 0 := by rw [hc.read (by decide) (by rw [hl]; decide)]
  have hr : S1.record = none := by
    apply LogS.record_none
    apply LogS.atOk_none
    show reads (D1.at_ 2) = none
    rw [a2]; exact reads_zero
  unfold LogS.opens
  rw [if_neg (by rw [e0]; simp), if_neg (by rw [e1]; simp), hh]
  show (if (1 : Nat) = 0 then _ else if (S1.runs 5).checkpoint.1 ≠ 0 then _ else _) = _
  rw [if_neg (by decide), LogS.runs_stop 5 S1 hr]
  have hk : S1.checkpoint = (0, S1) := by
    unfold LogS.checkpoint
    rw [if_neg (by decide), if_pos (by rfl)]
  rw [hk]
  rfl
/-- What the first Commit writes, and what is there behind it. -/
def w1 (a : Page) : List (Nat × Page) := [(1, a), (4, a)]
def D2 (a : Page) : DiskS := (D1.acts (S1.writeAs (w1 a))).2
def S2 (a : Page) : LogS := ({ S1 with disk := D2 a } : LogS).took (w1 a)
theorem inW (a : Page) : DiskS.InA 12 (S1.writeAs (w1 a)) := by
  unfold LogS.writeAs
  intro i s h
  rcases List.mem_append.1 h with h | h
  · exact LogS.inA_puts S1 12 _ _ (by show ((2 + 0 + 3 : Nat) : Int) ≤ 12; decide) i s h
  · rcases List.mem_cons.1 h with h | h
    · cases h
    · rcases List.mem_append.1 h with h | h
      · exact LogS.inA_puts S1 12 _ _ (by show ((3 + 0 + 2 + 1 : Nat) : Int) ≤ 12; decide) i s h
      · simp at h
theorem com (a : Page) : (D1.acts (S1.writeAs (w1 a))).1 = 0 ∧ (D2 a).Calm ∧ (D2 a).lasts.length = 12 ∧ (D2 a).waits = (fun _ => none) ∧ ∀ (j : Int), 0 ≤ j → j < 12 → (D2 a).at_ j = DiskS.layA D1.at_ (S1.writeAs (w1 a)) j := by
  obtain ⟨_, hc, hl, _, _⟩ := fmt
  obtain ⟨b1, b2, b3⟩ := hc.acts (S1.writeAs (w1 a)) (by rw [hl]; exact inW a)
  refine ⟨b1, b2, by unfold D2; rw [DiskS.length_acts]; exact hl, ?_, fun j h0 h1 => b3 j h0 (by rw [hl]; exact h1)⟩
  unfold D2
  have e : S1.writeAs (w1 a) = (S1.putsA (2 + S1.used) (LogS.recFrames (w1 a)) ++ (.flush :: S1.putsA (3 + S1.used + (w1 a).length) [LogS.frame4 (w1 a).length])) ++ [.flush] := by
    unfold LogS.writeAs; rw [List.append_assoc]; rfl
  rw [e]
  refine DiskS.flush_waits hc _ ?_
  rw [hl]
  intro i s h
  exact inW a i s (by rw [e]; exact List.mem_append_left _ h)
theorem may1 (a : Page) : S1.may [(1, a), (4, a)] = 0 := by
  unfold LogS.may
  have h1 : S1.pages = 5 := rfl
  have h2 : S1.log = 5 := rfl
  rw [if_pos, if_neg]
  · simp [h2]
  · rw [h1]; simp
theorem commit1 (a : Page) : S1.commit [(1, a), (4, a)] = (0, S2 a) := by
  have hn : LogS.nats [((1 : Int), a), (4, a)] = w1 a := rfl
  unfold LogS.commit
  rw [if_neg (by rw [may1]; simp), if_neg (by simp), if_neg (by decide), if_neg (by show ¬ 5 < 0 + 2 + 2; decide), hn]
  unfold LogS.write
  rw [if_neg (by rw [show S1.disk = D1 from rfl, (com a).1]; simp)]
  rfl
def D2a (a : Page) : DiskS := { D2 a with armed := 2 }
theorem arm1 (a : Page) : (S2 a).disk.arm 2 = (0, D2a a) := by unfold DiskS.arm; rw [if_neg (by decide)]; rfl
def S2a (a : Page) : LogS := { S2 a with disk := D2a a }
theorem kept2 (a : Page) : (S2a a).kept = [(1, a), (4, a)] := rfl
/-- The power goes at the second home. -/
def D3 (a : Page) : DiskS := ((((D2a a).put 8 (L0.homeF 1 a).sector).goes).put 11 (L0.homeF 4 a).sector).goes
theorem goes_set {D : DiskS} {n : Int} (h : D.armed = n) (hn : n ≠ 0) : D.goes = { D with armed := n - 1, dead := n == 1 } := by
  unfold DiskS.goes; rw [if_neg (by rw [h]; exact hn), h]
theorem went_of {D : DiskS} {n : Int} (h : D.armed = n) : D.went = (n == 1) := by unfold DiskS.went; rw [h]
theorem log2 (a : Page) : (S2a a).log = 5 := rfl
theorem gen2 (a : Page) : (S2a a).gen = 1 := rfl
theorem homeF2 (a : Page) (p : Nat) : (S2a a).homeF p a = L0.homeF p a := by unfold LogS.homeF; rw [gen2]; rfl
theorem homeA_1 (a : Page) : (S2a a).homeA 1 a = .write 8 (L0.homeF 1 a).sector := by
  unfold LogS.homeA; rw [log2, homeF2]; rfl
theorem homeA_4 (a : Page) : (S2a a).homeA 4 a = .write 11 (L0.homeF 4 a).sector := by
  unfold LogS.homeA; rw [log2, homeF2]; rfl
theorem homeAs2 (a : Page) : (S2a a).homeAs = [.write 8 (L0.homeF 1 a).sector, .write 11 (L0.homeF 4 a).sector, .flush] := by
  unfold LogS.homeAs; rw [kept2]; simp only [List.map_cons, List.map_nil, List.cons_append, List.nil_append, homeA_1, homeA_4]
theorem two_one : ((2 : Int) == 1) = false := by decide
theorem one_one : ((1 : Int) == 1) = true := by decide
theorem acts_two {E : DiskS} (hd : E.dead = false) (hle : E.lasts.length = 12) (ha : E.armed = 2) (s1 s2 : Sec) : E.acts [.write 8 s1, .write 11 s2, .flush] = (6, ((E.put 8 s1).goes.put 11 s2).goes) := by
  have m1 : E.may 8 = 0 := by unfold DiskS.may; rw [if_neg (by simp [hd]), if_neg (by decide), if_neg (by rw [hle]; decide)]
  have w1 : E.write 8 s1 = (0, (E.put 8 s1).goes) := by
    unfold DiskS.write; rw [if_pos m1, went_of ha, two_one]; simp
  have pl : (E.put 8 s1).lasts = E.lasts := rfl
  have pa : (E.put 8 s1).armed = 2 := ha
  have g1 : (E.put 8 s1).goes = { E.put 8 s1 with armed := 2 - 1, dead := (2 : Int) == 1 } := goes_set pa (by decide)
  have ga : (E.put 8 s1).goes.armed = 1 := by rw [g1]; rfl
  have gd : (E.put 8 s1).goes.dead = false := by rw [g1]; exact two_one
  have gl : (E.put 8 s1).goes.lasts.length = 12 := by rw [g1]; exact hle
  generalize hF : (E.put 8 s1).goes = F at w1 ga gd gl ⊢
  have m2 : F.may 11 = 0 := by
    unfold DiskS.may
    rw [if_neg (by simp [gd]), if_neg (by decide), if_neg (by rw [gl]; decide)]
  have w2 : F.write 11 s2 = (6, (F.put 11 s2).goes) := by
    unfold DiskS.write
    rw [if_pos m2, went_of ga, one_one]; simp
  rw [DiskS.acts_cons]
  show (if (E.write 8 s1).1 = 0 then (E.write 8 s1).2.acts [.write 11 s2, .flush] else E.write 8 s1) = _
  rw [w1, if_pos rfl]
  show F.acts [.write 11 s2, .flush] = _
  rw [DiskS.acts_cons]
  show (if (F.write 11 s2).1 = 0 then (F.write 11 s2).2.acts [.flush] else F.write 11 s2) = _
  rw [w2, if_neg (by simp)]
theorem set_dead (D : DiskS) (n : Int) : ({ D with armed := n } : DiskS).dead = D.dead := rfl
theorem set_lasts (D : DiskS) (n : Int) : ({ D with armed := n } : DiskS).lasts = D.lasts := rfl
theorem set_armed (D : DiskS) (n : Int) : ({ D with armed := n } : DiskS).armed = n := rfl
theorem D2a_eq (a : Page) : D2a a = { D2 a with armed := 2 } := rfl
theorem acts3 (a : Page) : (D2a a).acts (S2a a).homeAs = (6, D3 a) := by
  have hd : (D2a a).dead = false := by rw [D2a_eq, set_dead]; exact (com a).2.1.dead
  have hl : (D2a a).lasts.length = 12 := by rw [D2a_eq, set_lasts]; exact (com a).2.2.1
  have ha : (D2a a).armed = 2 := by rw [D2a_eq, set_armed]
  rw [homeAs2]
  unfold D3
  generalize D2a a = E at hd hl ha ⊢
  exact acts_two hd hl ha _ _
theorem may2 (a : Page) : (S2a a).may [(2, a)] = 0 := by
  unfold LogS.may
  have h1 : (S2a a).pages = 5 := rfl
  have h2 : (S2a a).log = 5 := rfl
  rw [if_pos, if_neg]
  · simp [h2]
  · rw [h1]; simp
theorem commit2 (a : Page) : (S2a a).commit [(2, a)] = (6, { S2a a with disk := D3 a, dead := true }) := by
  have hk : (S2a a).checkpoint = (6, { S2a a with disk := D3 a, dead := true }) := by
    unfold LogS.checkpoint
    rw [if_neg (by show ¬ (false = true); decide), if_neg (by show ¬ (4 : Nat) = 0; decide), if_pos (by rw [show (S2a a).disk = D2a a from rfl, acts3]; simp), show (S2a a).disk = D2a a from rfl, acts3]
    rfl
  unfold LogS.commit
  rw [if_neg (by rw [may2]; simp), if_neg (by simp), if_neg (by show ¬ (false = true); decide), if_pos (by show 5 < 4 + 1 + 2; decide), hk, if_pos (by simp)]
theorem set_ok {D : DiskS} {n : Int} (h : D.Ok) (h0 : 0 ≤ n) (h1 : n ≤ 9223372036854775807) : ({ D with armed := n } : DiskS).Ok := ⟨h.some, h.size, h.sup, h0, h1⟩
theorem rec_of {S T : LogS} (h1 : S.gen = T.gen) (h2 : S.records = T.records) (f : FrameV) : S.rec_ f = T.rec_ f := by unfold LogS.rec_; rw [h1, h2]
/-- The power comes back and nothing that waited is kept. -/
theorem on_two {E : DiskS} (ok : E.Ok) (hd : E.dead = false) (hle : E.lasts.length = 12) (ha : E.armed = 2) (s1 s2 : Sec) :
    ((((E.put 8 s1).goes.put 11 s2).goes).on []).1 = 0 ∧ ((((E.put 8 s1).goes.put 11 s2).goes).on []).2.Calm ∧ ((((E.put 8 s1).goes.put 11 s2).goes).on []).2.lasts = E.lasts ∧ ((((E.put 8 s1).goes.put 11 s2).goes).on []).2.waits = fun _ => none := by
  have m1 : E.may 8 = 0 := by unfold DiskS.may; rw [if_neg (by simp [hd]), if_neg (by decide), if_neg (by rw [hle]; decide)]
  have k1 := (ok.put (s := s1) m1).goes
  have pa : (E.put 8 s1).armed = 2 := ha
  have g1 : (E.put 8 s1).goes = { E.put 8 s1 with armed := 2 - 1, dead := (2 : Int) == 1 } := goes_set pa (by decide)
  have ga : (E.put 8 s1).goes.armed = 1 := by rw [g1]; rfl
  have gd : (E.put 8 s1).goes.dead = false := by rw [g1]; exact two_one
  have gl : (E.put 8 s1).goes.lasts = E.lasts := by rw [g1]; rfl
  generalize (E.put 8 s1).goes = F at k1 ga gd gl ⊢
  have m2 : F.may 11 = 0 := by
    unfold DiskS.may
    rw [if_neg (by simp [gd]), if_neg (by decide), if_neg (by rw [gl, hle]; decide)]
  have k2 := (k1.put (s := s2) m2).goes
  have pb : (F.put 11 s2).armed = 1 := ga
  have g2 : (F.put 11 s2).goes = { F.put 11 s2 with armed := 1 - 1, dead := (1 : Int) == 1 } := goes_set pb (by decide)
  have hb : (F.put 11 s2).goes.armed = 0 := by rw [g2]; rfl
  have hdd : (F.put 11 s2).goes.dead = true := by rw [g2]; exact one_one
  have hl2 : (F.put 11 s2).goes.lasts = E.lasts := by rw [g2]; exact gl
  generalize (F.put 11 s2).goes = G at k2 hb hdd hl2 ⊢
  have e : G.on [] = (0, { G with dead := false, lasts := DiskS.lay G.lasts (G.kept []), waits := fun _ => none }) := by
    unfold DiskS.on; rw [if_pos hdd]
  have hk : G.kept [] = fun _ => none := by unfold DiskS.kept; funext i; rw [if_neg (by simp)]
  have hO := k2.on []
  rw [e, hk, DiskS.lay_none] at hO ⊢
  exact ⟨rfl, ⟨rfl, hb, hO⟩, hl2, rfl⟩
def D4 (a : Page) : DiskS := ((D3 a).on []).2
theorem back (a : Page) : ((D3 a).on []).1 = 0 ∧ (D4 a).Calm ∧ (D4 a).lasts = (D2 a).lasts ∧ (D4 a).waits = fun _ => none := by
  have hd : (D2a a).dead = false := by rw [D2a_eq, set_dead]; exact (com a).2.1.dead
  have hl : (D2a a).lasts.length = 12 := by rw [D2a_eq, set_lasts]; exact (com a).2.2.1
  have ha : (D2a a).armed = 2 := by rw [D2a_eq, set_armed]
  have hk : (D2a a).Ok := by rw [D2a_eq]; exact set_ok (com a).2.1.ok (by decide) (by decide)
  have hll : (D2a a).lasts = (D2 a).lasts := by rw [D2a_eq, set_lasts]
  unfold D4 D3
  rw [← hll]
  generalize D2a a = E at hd hl ha hk ⊢
  exact on_two hk hd hl ha _ _
theorem on3 (a : Page) : (D3 a).on [] = (0, D4 a) := Prod.ext (back a).1 rfl
theorem len4 (a : Page) : (D4 a).lasts.length = 12 := by rw [(back a).2.2.1]; exact (com a).2.2.1
theorem at4 (a : Page) (j : Int) (h0 : 0 ≤ j) (h1 : j < 12) : (D4 a).at_ j = DiskS.layA D1.at_ (S1.writeAs (w1 a)) j := by
  rw [← (com a).2.2.2.2 j h0 h1]
  unfold DiskS.at_
  rw [(back a).2.2.2, (back a).2.2.1, (com a).2.2.2.1]
theorem b0 (a : Page) : (D4 a).at_ 0 = Arr.zero := (at4 a 0 (by decide) (by decide)).trans a0
theorem b1 (a : Page) : (D4 a).at_ 1 = L0.headF.sector := (at4 a 1 (by decide) (by decide)).trans a1
theorem b6 (a : Page) : (D4 a).at_ 6 = Arr.zero := (at4 a 6 (by decide) (by decide)).trans a6
theorem b9 (a : Page) : (D4 a).at_ 9 = (L0.homeF 2 Arr.zero).sector := (at4 a 9 (by decide) (by decide)).trans a9
theorem b2 (a : Page) : (D4 a).at_ 2 = (S1.rec_ (LogS.frame2 [1, 4])).sector := (at4 a 2 (by decide) (by decide)).trans rfl
theorem b3 (a : Page) : (D4 a).at_ 3 = (S1.rec_ (LogS.frame3 0 a)).sector := (at4 a 3 (by decide) (by decide)).trans rfl
theorem b4 (a : Page) : (D4 a).at_ 4 = (S1.rec_ (LogS.frame3 1 a)).sector := (at4 a 4 (by decide) (by decide)).trans rfl
theorem b5 (a : Page) : (D4 a).at_ 5 = (S1.rec_ (LogS.frame4 2)).sector := (at4 a 5 (by decide) (by decide)).trans rfl
def T4 (a : Page) : LogS := ⟨D4 a, 5, 5, 1, 0, 0, fun _ => none, false⟩
theorem ok4 (a : Page) : (T4 a).Ok := 
  ⟨by show 3 ≤ 5; decide, by show 5 ≤ 4000; decide, by show 1 ≤ 5; decide, by show 5 ≤ 16384; decide, (len4 a).symm, by show 0 ≤ 5; decide, by show 0 ≤ 0; decide, by show 1 < 18446744073709551616; decide, fun i x h => by cases h⟩
theorem gen4 (a : Page) : (T4 a).gen = 1 := rfl
theorem num4 (a : Page) : (T4 a).records = 0 := rfl
theorem gen1 : S1.gen = 1 := rfl
theorem num1 : S1.records = 0 := rfl
theorem rec_t (a : Page) (f : FrameV) : (T4 a).rec_ f = S1.rec_ f := rec_of ((gen4 a).trans gen1.symm) ((num4 a).trans num1.symm) f
theorem names1 (a : Page) : (w1 a).map (·.1) = [1, 4] := rfl
theorem lw1 (a : Page) : (w1 a).length = 2 := rfl
theorem used4 (a : Page) : (T4 a).used = 0 := rfl
theorem disk4 (a : Page) : (T4 a).disk = D4 a := rfl
theorem rec4 (a : Page) : (T4 a).record = some (w1 a) := by
  refine LogS.record_of (ok4 a) (ws := w1 a) (by show 1 ≤ 2; decide) (by show 2 ≤ 120; decide) (by show 0 + 2 + 2 ≤ 5; decide) ?_ ?_ (by rw [rec_t, names1, used4, disk4]; exact b2 a) ?_ (by rw [rec_t, lw1, used4, disk4]; exact b5 a)
  · intro q hq
    show q.1 < 5
    rcases List.mem_cons.1 hq with h | h
    · rw [h]; show 1 < 5; decide
    · rw [List.mem_singleton.1 h]; show 4 < 5; decide
  · show ([1, 4] : List Nat).Nodup
    decide
  · intro k q hk
    match k, hk with
    | 0, hk => cases hk; rw [rec_t, used4, disk4]; exact b3 a
    | 1, hk => cases hk; rw [rec_t, used4, disk4]; exact b4 a
    | n + 2, hk => cases hk
def U4 (a : Page) : LogS := (T4 a).took (w1 a)
theorem rec4b (a : Page) : (U4 a).record = none := by
  apply LogS.record_none
  apply LogS.atOk_none
  show reads ((D4 a).at_ 6) = none
  rw [b6]; exact reads_zero
theorem genU (a : Page) : (U4 a).gen = 1 := rfl
theorem logU (a : Page) : (U4 a).log = 5 := rfl
theorem pagesU (a : Page) : (U4 a).pages = 5 := rfl
theorem usedU (a : Page) : (U4 a).used = 4 := rfl
theorem deadU (a : Page) : (U4 a).dead = false := rfl
theorem diskU (a : Page) : (U4 a).disk = D4 a := rfl
theorem keptU (a : Page) : (U4 a).kept = [(1, a), (4, a)] := rfl
theorem homeFU (a : Page) (p : Nat) : (U4 a).homeF p a = L0.homeF p a := by unfold LogS.homeF; rw [genU]; rfl
theorem homeU1 (a : Page) : (U4 a).homeA 1 a = .write 8 (L0.homeF 1 a).sector := by unfold LogS.homeA; rw [logU, homeFU]; rfl
theorem homeU4 (a : Page) : (U4 a).homeA 4 a = .write 11 (L0.homeF 4 a).sector := by unfold LogS.homeA; rw [logU, homeFU]; rfl
def homes5 (a : Page) : List DAct := [.write 8 (L0.homeF 1 a).sector, .write 11 (L0.homeF 4 a).sector, .flush]
theorem homesU (a : Page) : (U4 a).homeAs = homes5 a := by
  unfold LogS.homeAs homes5; rw [keptU]; simp only [List.map_cons, List.map_nil, List.cons_append, List.nil_append, homeU1, homeU4]
theorem in5 (a : Page) : DiskS.InA 12 (homes5 a) := by
  intro i s h
  unfold homes5 at h
  rcases List.mem_cons.1 h with h | h
  · cases h; decide
  · rcases List.mem_cons.1 h with h | h
    · cases h; decide
    · rcases List.mem_cons.1 h with h | h
      · cases h
      · cases h
def D5 (a : Page) : DiskS := ((D4 a).acts (homes5 a)).2
theorem acts5 (a : Page) : ((D4 a).acts (homes5 a)).1 = 0 ∧ (D5 a).Calm ∧ (D5 a).lasts.length = 12 ∧ ∀ (j : Int), 0 ≤ j → j < 12 → (D5 a).at_ j = DiskS.layA (D4 a).at_ (homes5 a) j := by
  obtain ⟨b1, b2, b3⟩ := (back a).2.1.acts (homes5 a) (by rw [len4]; exact in5 a)
  exact ⟨b1, b2, by unfold D5; rw [DiskS.length_acts]; exact len4 a, fun j h0 h1 => b3 j h0 (by rw [len4]; exact h1)⟩
def V4 (a : Page) : LogS := { U4 a with disk := D5 a }
def head6 : List DAct := [.write 0 (⟨1, 2, 0, 0, numsPage [5, 5]⟩ : FrameV).sector, .flush]
theorem genN (a : Page) : (V4 a).next.gen = 2 := rfl
theorem logN (a : Page) : (V4 a).next.log = 5 := rfl
theorem pagesN (a : Page) : (V4 a).next.pages = 5 := rfl
theorem headN (a : Page) : (V4 a).next.headAs = head6 := by
  unfold LogS.headAs LogS.headF head6; rw [genN, logN, pagesN]; rfl
theorem in6 : DiskS.InA 12 head6 := by
  intro i s h
  unfold head6 at h
  rcases List.mem_cons.1 h with h | h
  · cases h; decide
  · rcases List.mem_cons.1 h with h | h
    · cases h
    · cases h
def D6 (a : Page) : DiskS := ((D5 a).acts head6).2
theorem acts6 (a : Page) : ((D5 a).acts head6).1 = 0 ∧ (D6 a).Calm ∧ (D6 a).lasts.length = 12 ∧ ∀ (j : Int), 0 ≤ j → j < 12 → (D6 a).at_ j = DiskS.layA (D5 a).at_ head6 j := by
  obtain ⟨b1, b2, b3⟩ := (acts5 a).2.1.acts head6 (by rw [(acts5 a).2.2.1]; exact in6)
  exact ⟨b1, b2, by unfold D6; rw [DiskS.length_acts]; exact (acts5 a).2.2.1, fun j h0 h1 => b3 j h0 (by rw [(acts5 a).2.2.1]; exact h1)⟩
/-- The log behind the failure. -/
def S6 (a : Page) : LogS := ({ (V4 a).next with disk := D6 a } : LogS).cleared
theorem set_disk (L : LogS) (D : DiskS) : ({ L with disk := D } : LogS).disk = D := rfl
theorem V4_eq (a : Page) : V4 a = { U4 a with disk := D5 a } := rfl
theorem diskV (a : Page) : (V4 a).disk = D5 a := by rw [V4_eq, set_disk]
theorem D6_eq (a : Page) : D6 a = ((D5 a).acts head6).2 := rfl
theorem raise6 (a : Page) : (V4 a).raise = (0, { (V4 a).next with disk := D6 a }) := by
  unfold LogS.raise
  rw [headN, diskV, (acts6 a).1, ← D6_eq]
theorem check6 (a : Page) : (U4 a).checkpoint = (0, S6 a) := by
  unfold LogS.checkpoint
  rw [if_neg (by rw [deadU]; decide), if_neg (by rw [usedU]; decide), homesU, diskU, if_neg (by rw [(acts5 a).1]; simp)]
  show (if (V4 a).raise.1 ≠ 0 then _ else (0, (V4 a).raise.2.cleared)) = _
  rw [if_neg (by rw [raise6]; simp), raise6]
  rfl
theorem c8 (a : Page) : (D6 a).at_ 8 = (L0.homeF 1 a).sector := ((acts6 a).2.2.2 8 (by decide) (by decide)).trans (((acts5 a).2.2.2 8 (by decide) (by decide)).trans rfl)
theorem c11 (a : Page) : (D6 a).at_ 11 = (L0.homeF 4 a).sector := ((acts6 a).2.2.2 11 (by decide) (by decide)).trans (((acts5 a).2.2.2 11 (by decide) (by decide)).trans rfl)
theorem c9 (a : Page) : (D6 a).at_ 9 = (L0.homeF 2 Arr.zero).sector := ((acts6 a).2.2.2 9 (by decide) (by decide)).trans (((acts5 a).2.2.2 9 (by decide) (by decide)).trans (b9 a))
theorem disk_cleared (L : LogS) : L.cleared.disk = L.disk := rfl
theorem S6_eq (a : Page) : S6 a = ({ (V4 a).next with disk := D6 a } : LogS).cleared := rfl
theorem diskS6 (a : Page) : (S6 a).disk = D6 a := by rw [S6_eq, disk_cleared, set_disk]
theorem heads4 (a : Page) : LogS.heads (D4 a) = T4 a := heads_of (back a).2.1 (len4 a) (b0 a) (b1 a)
theorem runs4 (a : Page) : (T4 a).runs 5 = U4 a := by
  rw [LogS.runs_succ, rec4]
  exact LogS.runs_stop 4 (U4 a) (rec4b a)
theorem log4 (a : Page) : (T4 a).log = 5 := rfl
theorem open4 (a : Page) : LogS.opens (D4 a) = (0, some (S6 a), D6 a) := by
  have hc := (back a).2.1
  have e0 : ((D4 a).read 0).2 = 0 := by rw [hc.read (by decide) (by rw [len4]; decide)]
  have e1 : ((D4 a).read 1).2 = 0 := by rw [hc.read (by decide) (by rw [len4]; decide)]
  have hg : ¬ (LogS.heads (D4 a)).gen = 0 := by rw [heads4, gen4]; exact Nat.one_ne_zero
  have hr : ((LogS.heads (D4 a)).runs (LogS.heads (D4 a)).log).checkpoint = (0, S6 a) := by rw [heads4, log4, runs4, check6]
  unfold LogS.opens
  rw [if_neg (not_not_intro e0), if_neg (not_not_intro e1), if_neg hg, hr, if_neg (not_not_intro rfl), diskS6]
theorem genS6 (a : Page) : (S6 a).gen = 2 := rfl
theorem logS6 (a : Page) : (S6 a).log = 5 := rfl
theorem pagesS6 (a : Page) : (S6 a).pages = 5 := rfl
theorem deadS6 (a : Page) : (S6 a).dead = false := rfl
theorem overS6 (a : Page) : (S6 a).over = fun _ => none := rfl
theorem read6 (a : Page) {p : Nat} {x : Page} (hp : p < 5) (hat : (D6 a).at_ ((7 + p : Nat) : Int) = (L0.homeF p x).sector) : (S6 a).read (p : Int) = ((x, 0), S6 a) := by
  refine LogS.read_home (T := L0) (deadS6 a) (by rw [diskS6]; exact (acts6 a).2.1) (by rw [pagesS6]; exact hp) (by rw [logS6, pagesS6, diskS6, (acts6 a).2.2.1]) (by rw [overS6]) (by decide) (by omega) ?_
  rw [diskS6, logS6]
  exact hat
theorem readA (a : Page) : (S6 a).read 1 = ((a, 0), S6 a) := read6 a (p := 1) (by decide) (c8 a)
theorem readB (a : Page) : (S6 a).read 4 = ((a, 0), S6 a) := read6 a (p := 4) (by decide) (c11 a)
theorem readC (a : Page) : (S6 a).read 2 = ((Arr.zero, 0), S6 a) := read6 a (p := 2) (by decide) (c9 a)
end WorksP
end Go.Cib
/-
  A log that is sound, plain: Commit, Open and Read as its users see them; no Go in it.
-/
namespace Go.Cib
open Go Go.RowKit
namespace LogS
theorem Sound.commit {S : LogS} {now : Nat → Page} (h : Sound true S now) (hg : S.gen + 1 < 18446744073709551616) (w : List (Int × Page)) :
    (S.may w ≠ 0 ∧ S.commit w = (S.may w, S)) ∨
    (S.may w = 0 ∧ (S.commit w).1 = 0 ∧ Sound true (S.commit w).2 (putNow now (nats w)) ∧ (S.commit w).2.log = S.log ∧ (S.commit w).2.pages = S.pages ∧ (S.commit w).2.gen ≤ S.gen + 1 ∧ (S.disk.armed = 0 → (S.commit w).2.disk.armed = 0)) ∨
    (S.may w = 0 ∧ (S.commit w).1 = 6 ∧ (S.commit w).2.dead = true ∧ (S.commit w).2.log = S.log ∧ (S.commit w).2.pages = S.pages ∧ S.disk.armed ≠ 0 ∧ Left true S.log S.pages (S.gen + 1) (S.commit w).2.disk (fun n => n = now ∨ n = putNow now (nats w))) := by
  by_cases hm : S.may w = 0
  · refine .inr ?_
    by_cases hw : w = []
    · have e : S.commit w = (0, S) := by
        unfold LogS.commit; rw [if_neg (by simp [hm]), if_pos hw]
      rw [e]
      refine .inl ⟨hm, rfl, ?_, rfl, rfl, Nat.le_succ _, fun h => h⟩
      rw [hw]; exact h
    · obtain ⟨_, k2, k3, k4, k5⟩ := nats_cast hm
      have hlen : (nats w).length = w.length := by unfold nats; simp
      have hpos : 1 ≤ w.length := by cases w with | nil => exact absurd rfl hw | cons _ _ => simp
      by_cases hc : S.log < S.used + w.length + 2
      · have e : S.commit w = if S.checkpoint.1 ≠ 0 then S.checkpoint else S.checkpoint.2.write (nats w) := by
          unfold LogS.commit; rw [if_neg (by simp [hm]), if_neg hw, if_neg (by simp [h.live]), if_pos hc]
        rcases h.checkpoint hg with ⟨a1, a2, a3, a4, a5, a6, a7, _⟩ | ⟨a1, a2, a3, a4, a5, a6⟩
        · rw [if_neg (by simp [a1])] at e
          rw [e]
          have fit : Fit S.checkpoint.2 (nats w) := ⟨by omega, by omega, by omega, by rw [a4]; exact k2, k5⟩
          rcases a2.write fit with ⟨b1, b2, b3, b4, b5, b6⟩ | ⟨b1, b2, b3, b4, b5, b6⟩
          · exact .inl ⟨hm, b1, b2, b3.trans a3, b4.trans a4, by omega, fun h => b6 (a7 h)⟩
          · refine .inr ⟨hm, b1, b2, b3.trans a3, b4.trans a4, fun h => b5 (a7 h), ?_⟩
            rw [← a3, ← a4]
            exact b6.imp (fun _ h => h) a5
        · rw [if_pos (by rw [a1]; decide)] at e
          rw [e]
          exact .inr ⟨hm, a1, a2, a3, a4, a5, a6.imp (fun _ h => .inl h) (Nat.le_refl _)⟩
      · have e : S.commit w = S.write (nats w) := by
          unfold LogS.commit; rw [if_neg (by simp [hm]), if_neg hw, if_neg (by simp [h.live]), if_neg hc]
        rw [e]
        rcases h.write (ws := nats w) ⟨by omega, by omega, by omega, k2, k5⟩ with ⟨b1, b2, b3, b4, b5, b6⟩ | ⟨b1, b2, b3, b4, b5, b6⟩
        · exact .inl ⟨hm, b1, b2, b3, b4, by omega, b6⟩
        · exact .inr ⟨hm, b1, b2, b3, b4, b5, b6.imp (fun _ h => h) (Nat.le_succ _)⟩
  · refine .inl ⟨hm, ?_⟩
    unfold LogS.commit; rw [if_pos hm]
/-- The head that is found. -/
theorem heads_gen {D : DiskS} {k h g : Nat} (hd : D.dead = false) (hl : 2 + k + h = D.lasts.length) (k3 : 3 ≤ k) (k4 : k ≤ 4000) (h1 : 1 ≤ h) (h2 : h ≤ 16384) (g1 : 1 ≤ g) (g2 : g < 18446744073709551616)
    (hh : D.at_ ((g % 2 : Nat) : Int) = (⟨1, g, 0, 0, numsPage [k, h]⟩ : FrameV).sector) (ho : ∀ f, reads (D.at_ (((g + 1) % 2 : Nat) : Int)) = some f → f.gen < g) :
    heads D = ⟨D, k, h, g, 0, 0, fun _ => none, false⟩ := by
  have r0 : (D.read 0).1 = D.at_ 0 := by unfold DiskS.read; rw [if_pos (DiskS.may_in hd (by decide) (by omega))]
  have r1 : (D.read 1).1 = D.at_ 1 := by unfold DiskS.read; rw [if_pos (DiskS.may_in hd (by decide) (by omega))]
  unfold heads
  rw [r0, r1]
  rcases Nat.mod_two_eq_zero_or_one g with e | e
  · have e2 : (g + 1) % 2 = 1 := by omega
    rw [e] at hh
    rw [e2] at ho
    change D.at_ 0 = _ at hh
    change ∀ f, reads (D.at_ 1) = some f → f.gen < g at ho
    rw [hh, chooses_of (S := blank D) (g := g) (log := k) (pages := h) (by show 0 < g; omega) g2 e k3 k4 h1 h2 hl]
    unfold chooses
    rw [if_neg]
    · rfl
    · rintro ⟨c1, c2⟩
      have := ho (parse (D.at_ 1)) (by unfold reads; rw [if_pos c1])
      have c3 : g < (parse (D.at_ 1)).gen := c2.2.2.2.1
      omega
  · have e2 : (g + 1) % 2 = 0 := by omega
    rw [e] at hh
    rw [e2] at ho
    change D.at_ 1 = _ at hh
    change ∀ f, reads (D.at_ 0) = some f → f.gen < g at ho
    have hk := chooses_keep (blank D) 0 (D.at_ 0)
    have hlt : ((blank D).chooses 0 (D.at_ 0)).gen < g := by
      unfold chooses
      split
      · rename_i c
        exact ho (parse (D.at_ 0)) (by unfold reads; rw [if_pos c.1])
      · show 0 < g; omega
    generalize (blank D).chooses 0 (D.at_ 0) = L at hk hlt
    obtain ⟨l1, l2, l3, l4, l5⟩ := hk
    rw [hh, chooses_of (S := L) (g := g) (log := k) (pages := h) hlt g2 e k3 k4 h1 h2 (by rw [l1]; exact hl)]
    cases L
    simp only at l1 l2 l3 l4 l5
    subst l1 l2 l3 l4 l5
    rfl
theorem Lay.stop {m : Int → Sec} {S : LogS} {now : Nat → Page} (h : Lay true m S now) (hm : ∀ p, p < S.log → S.disk.at_ ((2 + p : Nat) : Int) = m ((2 + p : Nat) : Int)) : S.record = none := by
  unfold record
  rw [if_neg]
  rintro ⟨_, _, _, _, _, _, k4, _⟩
  unfold atOk at k4
  simp only [Bool.and_eq_true, decide_eq_true_eq] at k4
  obtain ⟨⟨⟨⟨c1, c2⟩, c3⟩, c4⟩, c5⟩ := k4
  have hp0 : S.used ≤ S.used + 1 + (S.atF S.used).idx := by omega
  generalize S.used + 1 + (S.atF S.used).idx = p at c1 c2 c3 c4 c5 hp0
  by_cases hp : S.used ≤ p
  · have z := h.zone rfl p hp c1
    unfold atF at c3 c4 c5
    rw [if_pos c1] at c3 c4 c5
    rw [hm p c1] at c2 c3 c4 c5
    rcases z (parse (m ((2 + p : Nat) : Int))) (by unfold reads; rw [if_pos c2]) with z | ⟨_, z | ⟨_, z⟩⟩
    · omega
    · omega
    · exact z c3
  · exact hp hp0
/-- Open finds the log, or the power goes in it. -/
theorem Sound.opens {z : Bool} {S : LogS} {now : Nat → Page} (h : Sound z S now) (hr : S.record = none) (hg : S.gen + 1 < 18446744073709551616) :
    (LogS.opens S.disk = (0, some S.checkpoint.2, S.checkpoint.2.disk) ∧ S.checkpoint.1 = 0) ∨ (LogS.opens S.disk = (6, none, S.checkpoint.2.disk) ∧ S.checkpoint.1 = 6) := by
  have hl := h.lay
  have e0 : (S.disk.read 0).2 = 0 := by unfold DiskS.read; rw [if_pos (DiskS.may_in h.alive (by decide) (by have := h.size; omega))]
  have e1 : (S.disk.read 1).2 = 0 := by unfold DiskS.read; rw [if_pos (DiskS.may_in h.alive (by decide) (by have := h.size; omega))]
  have hh : heads S.disk = { S.cleared with dead := false } := heads_gen h.alive h.size hl.log3 hl.log4 hl.pages1 hl.pages2 hl.gen1 hl.gen2 hl.head hl.other
  have hS : { S with dead := false } = S := by cases S; have := h.live; simp only at this; subst this; rfl
  have hruns : (heads S.disk).runs (heads S.disk).log = S := by
    obtain ⟨rs, hrs⟩ := hl.recs
    rw [hS] at hrs
    rw [hh]
    have g := hrs.grow
    have ok : ({ S.cleared with dead := false } : LogS).Ok := h.ok.cleared.dead false
    refine Lies.runs ok (rs := rs) hrs hr _ ?_
    have := g.2.1
    have hu := hl.used
    show rs.length ≤ S.log
    change 0 + rs.length ≤ S.used at this
    omega
  have hg0 : ¬ (heads S.disk).gen = 0 := by
    rw [hh]; show ¬ S.gen = 0; have := hl.gen1; omega
  have eO : LogS.opens S.disk = if S.checkpoint.1 ≠ 0 then (S.checkpoint.1, none, S.checkpoint.2.disk) else (0, some S.checkpoint.2, S.checkpoint.2.disk) := by
    unfold LogS.opens
    rw [if_neg (not_not_intro e0), if_neg (not_not_intro e1), if_neg hg0, hruns]
  rcases h.checkpoint hg with ⟨a1, _⟩ | ⟨a1, _⟩
  · rw [eO, if_neg (by simp [a1])]; exact .inl ⟨rfl, a1⟩
  · rw [eO, if_pos (by rw [a1]; decide), a1]; exact .inr ⟨rfl, rfl⟩
/-- What lies on a disk is opened. -/
theorem Found.opens {k h g : Nat} {D : DiskS} {now : Nat → Page} (f : Found true k h g D now) (hg : g + 1 < 18446744073709551616) :
    (∃ T : LogS, LogS.opens D = (0, some T, T.disk) ∧ Sound true T now ∧ T.log = k ∧ T.pages = h ∧ T.gen ≤ g + 1 ∧ (D.armed = 0 → T.disk.armed = 0)) ∨
    (∃ E : DiskS, LogS.opens D = (6, none, E) ∧ D.armed ≠ 0 ∧ Left true k h (g + 1) E (· = now)) := by
  obtain ⟨S, rfl, hs, rfl, rfl, hle⟩ := f
  have hstop : S.record = none := hs.lay.stop fun p _ => rfl
  rcases hs.checkpoint (by omega) with ⟨a1, a2, a3, a4, a5, a6, a7, _⟩ | ⟨a1, a2, a3, a4, a5, a6⟩
  · rcases hs.opens hstop (by omega) with ⟨b1, _⟩ | ⟨_, b2⟩
    · exact .inl ⟨S.checkpoint.2, b1, a2, a3, a4, by omega, a7⟩
    · omega
  · rcases hs.opens hstop (by omega) with ⟨_, b2⟩ | ⟨b1, _⟩
    · omega
    · exact .inr ⟨_, b1, a5, a6.imp (fun _ h => h) (by omega)⟩
/-- What is read. -/
theorem Sound.read {z : Bool} {S : LogS} {now : Nat → Page} (h : Sound z S now) {p : Nat} (hp : p < S.pages) : S.read (p : Int) = ((now p, 0), S) := by
  have hl := h.lay
  unfold LogS.read
  rw [if_neg (by simp [h.live]), if_neg (by omega)]
  cases ho : S.over (p : Int) with
  | some x => rw [hl.over p hp x ho]
  | none =>
    obtain ⟨T, t1, t2⟩ := hl.homes p hp ho
    have hr : S.disk.read (2 + S.log + p) = (S.disk.at_ ((2 + S.log + p : Nat) : Int), 0) := by
      have hs := h.size
      have := DiskS.may_in h.alive (i := ((2 + S.log + p : Nat) : Int)) (by omega) (by omega)
      unfold DiskS.read
      rw [show (2 + (S.log : Int) + (p : Int)) = ((2 + S.log + p : Nat) : Int) by omega, if_pos this]
    simp only [hr, t2, Int.toNat_natCast]
    rw [if_neg (by simp), pageOf_home (S := T) (now p) t1 (by have := hl.pages2; omega)]
theorem Sound.read_out {z : Bool} {S : LogS} {now : Nat → Page} (h : Sound z S now) {p : Int} (hp : p < 0 ∨ (S.pages : Int) ≤ p) : S.read p = ((Arr.zero, 2), S) := by
  unfold LogS.read
  rw [if_neg (by simp [h.live]), if_pos hp]
end LogS
end Go.Cib
