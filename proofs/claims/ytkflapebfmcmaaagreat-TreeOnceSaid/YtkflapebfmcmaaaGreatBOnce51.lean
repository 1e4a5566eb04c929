/- Parts of the proofs of this seat's laws. -/
import Derived.Test.YtkflapebfmcmaaaGreatBOnce50
section
namespace Go.Sv
open Go Go.Proofs Go.Proofs.YtkflapebfmcmaaaGreat
set_option linter.all false
set_option maxRecDepth 100000

/-! TreeOnce: what is put out was set once; what is not was used once. -/
def sameE (s : Stmt) (t : Tree) : Prop := s.e.kind = t.kind ∧ s.e.ty = t.ty ∧ s.e.op = t.op ∧ s.e.off = t.off ∧ s.e.l.length = t.l.length
def outS (out : List TStmt) : List Int := (out.filter fun x => x.kind == 2).map (·.tmp)
def lvO (out : List TStmt) : List Int := (out.flatMap fun s => leavesL (partsT s)).map (·.tmp)
def lvT (ts : List Tree) : List Int := (leavesL ts).map (·.tmp)
def lvW (w : Wt) : List Int := (w.flatMap fun p => leavesT p.2).map (·.tmp)

theorem pick_not {n : Int} {t0 : Tree} : ∀ {w : Wt}, n ∉ w.map (·.1) → pickR n t0 w = (t0, w) := by
  intro w h
  have hf : ∀ p ∈ w, hitR n p = false := by
    intro p hp
    have : p.1 ≠ n := fun e => h (by rw [← e]; exact List.mem_map_of_mem hp)
    simp [hitR, this]
  unfold pickR
  have h1 : w.filter (fun p => !hitR n p) = w := List.filter_eq_self.2 fun p hp => by simp [hf p hp]
  rw [h1]
  congr 1
  clear h h1
  induction w generalizing t0 with
  | nil => rfl
  | cons p r ih => rw [List.foldl_cons, hf p (by simp)]; exact ih fun q hq => hf q (by simp [hq])
theorem pick_yes {n : Int} {t0 : Tree} {w : Wt} (hn : (w.map (·.1)).Nodup) (h0 : 0 ≤ n) {p : Int × Tree} (hp : p ∈ w) (e : p.1 = n) : (pickR n t0 w).1 = p.2 ∧ (pickR n t0 w).2.Sublist w ∧ n ∉ (pickR n t0 w).2.map (·.1) ∧ ∀ q ∈ w, q.1 ≠ n → q ∈ (pickR n t0 w).2 := by
  refine ⟨?_, List.filter_sublist, ?_, fun q hq hne => List.mem_filter.2 ⟨hq, by simp [hitR, hne]⟩⟩
  · unfold pickR
    simp only
    have hu : ∀ q ∈ w, q.1 = n → q = p := by
      intro q hq hqn
      have : ∀ (w : Wt), (w.map (·.1)).Nodup → p ∈ w → q ∈ w → p.1 = q.1 → p = q := by
        intro w
        induction w with
        | nil => intro _ h; simp at h
        | cons x r ih =>
          intro hn h1 h2 h3
          have hn' : x.1 ∉ r.map (·.1) ∧ (r.map (·.1)).Nodup := by simpa using hn
          rcases List.mem_cons.1 h1 with e1 | g1 <;> rcases List.mem_cons.1 h2 with e2 | g2
          · rw [e1, e2]
          · exact (hn'.1 (by rw [← e1, h3]; exact List.mem_map_of_mem g2)).elim
          · exact (hn'.1 (by rw [← e2, ← h3]; exact List.mem_map_of_mem g1)).elim
          · exact ih hn'.2 g1 g2 h3
      exact (this w hn hp hq (by rw [e, hqn])).symm
    have key : ∀ (w : Wt) (t : Tree), (∀ q ∈ w, q.1 = n → q = p) → (p ∈ w ∨ t = p.2) → w.foldl (fun t q => if hitR n q = true then q.2 else t) t = p.2 := by
      intro w
      induction w with
      | nil => intro t _ h; rcases h with h | h; simp at h; exact h
      | cons x r ih =>
        intro t hu h
        rw [List.foldl_cons]
        refine ih _ (fun q hq => hu q (by simp [hq])) ?_
        by_cases hx : hitR n x = true
        · rw [if_pos hx]
          have : x.1 = n := by unfold hitR at hx; simp at hx; exact hx.2
          rw [hu x (by simp) this]; exact .inr rfl
        · rw [if_neg hx]
          rcases h with h | h
          · rcases List.mem_cons.1 h with rfl | h
            · exact (hx (by unfold hitR; simp [e, h0])).elim
            · exact .inl h
          · exact .inr h
    exact key w t0 hu (.inl hp)
  · intro h
    obtain ⟨q, hq, e2⟩ := List.mem_map.1 h
    have := (List.mem_filter.1 hq).2
    unfold hitR at this
    simp [e2, h0] at this

/-- Where a statement's temporary is. -/
structure IX (b : Block) (P : List Stmt) (D : List Int) (outs : List Int) (lo : List Int) (ts : List Tree) (w : Wt) (A : List Atom) : Prop where
  nn : ∀ p ∈ w, 0 ≤ p.1
  nd : (w.map (·.1)).Nodup
  no : ∀ p ∈ w, p.1 ∉ outs
  w1 : ∀ p ∈ w, ∃ s ∈ P, s.kind = 2 ∧ s.tmp = p.1 ∧ sameE s p.2 ∧ usesM b s.tmp = 1
  st : ∀ s ∈ P, s.kind = 2 → s.tmp ∈ outs ∨ (usesM b s.tmp = 1 ∧ s.tmp ∈ w.map (·.1) ∧ cntA A s.tmp = 0 ∧ s.tmp ∉ lo ++ lvT ts ++ lvW w) ∨ (usesM b s.tmp = 1 ∧ cntA A s.tmp = 1 ∧ s.tmp ∉ lo ++ lvT ts ++ lvW w)
  lf : ∀ t ∈ lo ++ lvT ts ++ lvW w, 0 ≤ t → t ∈ D
theorem lvT_snoc (ts : List Tree) (t : Tree) : lvT (ts ++ [t]) = lvT ts ++ (leavesT t).map (·.tmp) := by simp [lvT, leavesL_snoc]
theorem lvW_mem {w : Wt} {p : Int × Tree} (h : p ∈ w) {x : Int} (hx : x ∈ (leavesT p.2).map (·.tmp)) : x ∈ lvW w := by
  obtain ⟨a, ha, rfl⟩ := List.mem_map.1 hx
  exact List.mem_map.2 ⟨a, List.mem_flatMap.2 ⟨p, h, ha⟩, rfl⟩
theorem lvW_sub {w w' : Wt} (h : w'.Sublist w) {x : Int} (hx : x ∈ lvW w') : x ∈ lvW w := by
  obtain ⟨a, ha, rfl⟩ := List.mem_map.1 hx
  obtain ⟨p, hp, ha⟩ := List.mem_flatMap.1 ha
  exact lvW_mem (h.subset hp) (List.mem_map_of_mem ha)
theorem cntA_one (a : Atom) (t : Int) : cntA [a] t = if t = a.tmp then 1 else 0 := by
  have := cntA_snoc [] a t
  simpa [cntA] using this

/-- One atom is taken. -/
theorem IX.take {b : Block} {P : List Stmt} {D outs lo : List Int} {ts : List Tree} {w : Wt} {A : List Atom} (h : IX b P D outs lo ts w A) (hpos : ∀ s ∈ P, s.kind = 2 → 0 ≤ s.tmp) (a : Atom) (ha : 0 ≤ a.tmp → a.tmp ∈ D) (hu : ∀ t, (cntA (A ++ [a]) t : Int) ≤ usesM b t) :
    IX b P D outs lo (ts ++ [(pickR a.tmp (leafT a) w).1]) (pickR a.tmp (leafT a) w).2 (A ++ [a]) := by
  obtain ⟨nn, nd, no, w1, st, lf⟩ := h
  by_cases hm : a.tmp ∈ w.map (·.1)
  · obtain ⟨p, hp, e⟩ := List.mem_map.1 hm
    obtain ⟨k1, k2, k3, k4⟩ := pick_yes (t0 := leafT a) nd (by rw [← e]; exact nn p hp) hp e
    rw [k1]
    generalize (pickR a.tmp (leafT a) w).2 = w' at k2 k3 k4
    have sub : ∀ x, x ∈ lo ++ lvT (ts ++ [p.2]) ++ lvW w' → x ∈ lo ++ lvT ts ++ lvW w := by
      intro x hx
      rw [lvT_snoc] at hx
      simp only [List.mem_append] at hx ⊢
      rcases hx with (hx | hx | hx) | hx
      · exact .inl (.inl hx)
      · exact .inl (.inr hx)
      · exact .inr (lvW_mem hp hx)
      · exact .inr (lvW_sub k2 hx)
    refine ⟨fun q hq => nn q (k2.subset hq), (k2.map _).nodup nd, fun q hq => no q (k2.subset hq), fun q hq => w1 q (k2.subset hq), fun s hs hk => ?_, fun t ht => lf t (sub t ht)⟩
    rcases st s hs hk with h | ⟨u, h1, h2, h3⟩ | ⟨u, h1, h2⟩
    · exact .inl h
    · by_cases hst : s.tmp = a.tmp
      · refine .inr (.inr ⟨u, ?_, fun hx => h3 (sub _ hx)⟩)
        rw [cntA_append, h2, cntA_one, if_pos hst]
      · refine .inr (.inl ⟨u, ?_, ?_, fun hx => h3 (sub _ hx)⟩)
        · obtain ⟨q, hq, e2⟩ := List.mem_map.1 h1
          exact List.mem_map.2 ⟨q, k4 q hq (by rw [e2]; exact hst), e2⟩
        · rw [cntA_append, h2, cntA_one, if_neg hst]
    · have hst : s.tmp ≠ a.tmp := by
        intro hst
        have := hu s.tmp
        rw [cntA_append, h1, cntA_one, if_pos hst, u] at this
        omega
      refine .inr (.inr ⟨u, ?_, fun hx => h2 (sub _ hx)⟩)
      rw [cntA_append, h1, cntA_one, if_neg hst]
  · rw [pick_not hm]
    have hl : leavesT (leafT a) = [a] := by unfold leafT; rw [leavesT, if_pos rfl]
    have mem : ∀ x, x ∈ lo ++ lvT (ts ++ [leafT a]) ++ lvW w → x ∈ lo ++ lvT ts ++ lvW w ∨ x = a.tmp := by
      intro x hx
      rw [lvT_snoc, hl] at hx
      simp only [List.mem_append, List.map_cons, List.map_nil, List.mem_singleton] at hx ⊢
      rcases hx with (hx | hx | hx) | hx
      · exact .inl (.inl (.inl hx))
      · exact .inl (.inl (.inr hx))
      · exact .inr hx
      · exact .inl (.inr hx)
    refine ⟨nn, nd, no, w1, fun s hs hk => ?_, fun t ht h0 => ?_⟩
    · rcases st s hs hk with h | ⟨u, h1, h2, h3⟩ | ⟨u, h1, h2⟩
      · exact .inl h
      · have hst : s.tmp ≠ a.tmp := fun hst => hm (by rw [← hst]; exact h1)
        refine .inr (.inl ⟨u, h1, ?_, fun hx => ?_⟩)
        · rw [cntA_append, h2, cntA_one, if_neg hst]
        · rcases mem _ hx with hx | hx
          · exact h3 hx
          · exact hst hx
      · have hst : s.tmp ≠ a.tmp := by
          intro hst
          have := hu s.tmp
          rw [cntA_append, h1, cntA_one, if_pos hst, u] at this
          omega
        refine .inr (.inr ⟨u, ?_, fun hx => ?_⟩)
        · rw [cntA_append, h1, cntA_one, if_neg hst]
        · rcases mem _ hx with hx | hx
          · exact h2 hx
          · exact hst hx
    · rcases mem t ht with ht | rfl
      · exact lf t ht h0
      · exact ha h0
/-- A list of atoms is taken. -/
theorem IX.takes {b : Block} {P : List Stmt} {D outs lo : List Int} (hpos : ∀ s ∈ P, s.kind = 2 → 0 ≤ s.tmp) : ∀ (l : List Atom) {ts : List Tree} {w : Wt} {A : List Atom}, IX b P D outs lo ts w A → (∀ a ∈ l, 0 ≤ a.tmp → a.tmp ∈ D) → (∀ t, (cntA (A ++ l) t : Int) ≤ usesM b t) →
    IX b P D outs lo (ts ++ (takenR l w).1) (takenR l w).2 (A ++ l)
  | [], ts, w, A, h, _, _ => by simpa [takenR] using h
  | a :: r, ts, w, A, h, hd, hu => by
    have h1 := h.take hpos a (hd a (by simp)) fun t => by
      have := hu t
      have e : A ++ a :: r = (A ++ [a]) ++ r := by simp
      rw [e, cntA_append] at this
      omega
    have h2 := IX.takes hpos r h1 (fun x hx => hd x (by simp [hx])) (by simpa using hu)
    simp only [takenR]
    have e1 : ts ++ (pickR a.tmp (leafT a) w).1 :: (takenR r (pickR a.tmp (leafT a) w).2).1 = ts ++ [(pickR a.tmp (leafT a) w).1] ++ (takenR r (pickR a.tmp (leafT a) w).2).1 := by simp
    have e2 : A ++ a :: r = A ++ [a] ++ r := by simp
    rw [e1, e2]
    exact h2
theorem IX.settle {b : Block} {P : List Stmt} {D outs lo : List Int} {ts : List Tree} {w : Wt} {A : List Atom} (h : IX b P D outs lo ts w A) (q : Int × Tree → Bool) :
    IX b P D (outs ++ (w.filter q).map (·.1)) (lo ++ lvW (w.filter q)) ts (w.filter fun p => !q p) A := by
  obtain ⟨nn, nd, no, w1, st, lf⟩ := h
  have s1 : (w.filter fun p => !q p).Sublist w := List.filter_sublist
  have s2 : (w.filter q).Sublist w := List.filter_sublist
  have sub : ∀ x, x ∈ lo ++ lvW (w.filter q) ++ lvT ts ++ lvW (w.filter fun p => !q p) → x ∈ lo ++ lvT ts ++ lvW w := by
    intro x hx
    simp only [List.mem_append] at hx ⊢
    rcases hx with ((hx | hx) | hx) | hx
    · exact .inl (.inl hx)
    · exact .inr (lvW_sub s2 hx)
    · exact .inl (.inr hx)
    · exact .inr (lvW_sub s1 hx)
  refine ⟨fun p hp => nn p (s1.subset hp), (s1.map _).nodup nd, fun p hp hm => ?_, fun p hp => w1 p (s1.subset hp), fun s hs hk => ?_, fun t ht => lf t (sub t ht)⟩
  · rcases List.mem_append.1 hm with hm | hm
    · exact no p (s1.subset hp) hm
    · obtain ⟨p2, hp2, e⟩ := List.mem_map.1 hm
      have : ∀ (w : Wt), (w.map (·.1)).Nodup → p ∈ w → p2 ∈ w → p2.1 = p.1 → p = p2 := by
        intro w
        induction w with
        | nil => intro _ h; simp at h
        | cons x r ih =>
          intro hn h1 h2 h3
          have hn' : x.1 ∉ r.map (·.1) ∧ (r.map (·.1)).Nodup := by simpa using hn
          rcases List.mem_cons.1 h1 with e1 | g1 <;> rcases List.mem_cons.1 h2 with e2 | g2
          · rw [e1, e2]
          · exact (hn'.1 (by rw [← e1, ← h3]; exact List.mem_map_of_mem g2)).elim
          · exact (hn'.1 (by rw [← e2, h3]; exact List.mem_map_of_mem g1)).elim
          · exact ih hn'.2 g1 g2 h3
      have e2 := this w nd (s1.subset hp) (s2.subset hp2) e
      subst e2
      have q1 := (List.mem_filter.1 hp).2
      have q2 := (List.mem_filter.1 hp2).2
      simp [q2] at q1
  · rcases st s hs hk with h | ⟨u, h1, h2, h3⟩ | ⟨u, h1, h2⟩
    · exact .inl (List.mem_append_left _ h)
    · obtain ⟨p, hp, e⟩ := List.mem_map.1 h1
      cases hq : q p with
      | true => exact .inl (List.mem_append_right _ (List.mem_map.2 ⟨p, List.mem_filter.2 ⟨hp, hq⟩, e⟩))
      | false => exact .inr (.inl ⟨u, List.mem_map.2 ⟨p, List.mem_filter.2 ⟨hp, by simp [hq]⟩, e⟩, h2, fun hx => h3 (sub _ hx)⟩)
    · exact .inr (.inr ⟨u, h1, fun hx => h2 (sub _ hx)⟩)

/-- What holds behind the statements P. -/
structure IV (b : Block) (P : List Stmt) (D : List Int) (c : List TStmt × Wt) : Prop where
  ix : IX b P D (outS c.1) (lvO c.1) [] c.2 (allA P)
  o1 : ∀ x ∈ c.1, x.kind = 2 → ∃ s ∈ P, s.kind = 2 ∧ s.tmp = x.tmp ∧ sameE s x.e
  nd : (outS c.1).Nodup
  pd : ∀ s ∈ P, s.kind = 2 → s.tmp ∈ D ∧ 0 ≤ s.tmp
  un : ∀ s ∈ P, ∀ s' ∈ P, s.kind = 2 → s'.kind = 2 → s.tmp = s'.tmp → s = s'
  ad : ∀ a ∈ allA P, 0 ≤ a.tmp → a.tmp ∈ D
theorem outS_append (a b : List TStmt) : outS (a ++ b) = outS a ++ outS b := by simp [outS]
theorem outS_set (w : Wt) : outS (w.map setT) = w.map (·.1) := by
  induction w with
  | nil => rfl
  | cons p r ih => simp only [outS, List.map_cons, List.filter_cons, setT] at ih ⊢; simp [ih]
theorem lvO_append (a b : List TStmt) : lvO (a ++ b) = lvO a ++ lvO b := by simp [lvO]
theorem lvO_set (w : Wt) : lvO (w.map setT) = lvW w := by
  unfold lvO lvW
  congr 1
  induction w with
  | nil => rfl
  | cons p r ih =>
    rw [List.map_cons, List.flatMap_cons, List.flatMap_cons, ih]
    congr 1
    simp [partsT, setT, leavesL]
theorem cnt_zero {A : List Atom} {t : Int} (h : ∀ a ∈ A, a.tmp ≠ t) : cntA A t = 0 := by
  unfold cntA
  rw [List.filter_eq_nil_iff.2 fun a ha => by simpa using h a ha]; rfl

theorem outS_mem {out : List TStmt} {t : Int} (h : t ∈ outS out) : ∃ x ∈ out, x.kind = 2 ∧ x.tmp = t := by
  obtain ⟨x, hx, rfl⟩ := List.mem_map.1 h
  obtain ⟨h1, h2⟩ := List.mem_filter.1 hx
  exact ⟨x, h1, by simpa using h2, rfl⟩
theorem stmtR_made {s : Stmt} (hs : VS s) (w : Wt) : ∃ ts, takenR (s.e.l ++ s.l) w = (ts, (stmtR s w).2) ∧ leavesL (partsT (stmtR s w).1) = leavesL ts ∧ (s.kind = 2 → leavesT (stmtR s w).1.e = leavesL ts ∧ sameE s (stmtR s w).1.e) ∧ (stmtR s w).1.kind = s.kind ∧ (stmtR s w).1.tmp = s.tmp := by
  unfold stmtR
  by_cases hk : s.kind = 2
  · obtain ⟨hl, _, hne⟩ := hs.set hk
    rw [if_pos hk, hl, List.append_nil]
    have e1 : leavesT (nodeT s.e (takenR s.e.l w).1) = leavesL (takenR s.e.l w).1 := by unfold nodeT; rw [leavesT, if_neg hne]
    refine ⟨(takenR s.e.l w).1, rfl, ?_, fun _ => ⟨e1, rfl, rfl, rfl, rfl, (takenR_len s.e.l w).1.symm⟩, rfl, rfl⟩
    simp only [partsT, bareT, hk, if_true, leavesL, List.append_nil]
    exact e1
  · rw [if_neg hk, hs.other hk, List.nil_append]
    refine ⟨(takenR s.l w).1, rfl, ?_, fun h => (hk h).elim, rfl, rfl⟩
    simp [partsT, bareT, hk]

theorem IV.step {b : Block} {P : List Stmt} {D : List Int} {c : List TStmt × Wt} (h : IV b P D c) {s : Stmt} {D' : List Int} (hst : stepC b.tmps D s = some D') (hu : ∀ t, (cntA (allA (P ++ [s])) t : Int) ≤ usesM b t) (dist : TStmt → Tree → Bool) : IV b (P ++ [s]) D' (stepB dist stmtR (usesM b) c s) := by
  unfold stepC at hst
  split at hst
  case isFalse => cases hst
  rename_i hc
  obtain ⟨hv, hus, hdf⟩ := hc
  have hvs := valid_VS hv
  have hD : ∀ x ∈ D, x ∈ D' := by
    cases hst
    intro x hx
    split
    · exact List.mem_cons_of_mem _ hx
    · exact hx
  have hset : s.kind = 2 → s.tmp ∈ D' ∧ 0 ≤ s.tmp ∧ s.tmp ∉ D := by
    intro hk
    have h0 := (hvs.set hk).2.1
    have e : defM s = s.tmp := by unfold defM; simp [hk]
    cases hst
    rw [e] at hdf ⊢
    rw [if_pos h0]
    exact ⟨by simp, h0, hdf h0⟩
  have hatoms : ∀ a ∈ s.e.l ++ s.l, 0 ≤ a.tmp → a.tmp ∈ D := by
    intro a ha
    refine hus a ?_
    unfold usesAt
    rcases List.mem_append.1 ha with ha | ha
    · by_cases hk : s.kind = 2
      · simp [hk, ha]
      · rw [hvs.other hk] at ha; simp at ha
    · exact List.mem_append_left _ ha
  clear hst hdf hus hv
  obtain ⟨ix, o1, nd, pd, un, ad⟩ := h
  obtain ⟨ts, e1, e2, e3, e4, e5⟩ := stmtR_made hvs c.2
  have hpos : ∀ s ∈ P, s.kind = 2 → 0 ≤ s.tmp := fun s hs hk => (pd s hs hk).2
  have eA : allA (P ++ [s]) = allA P ++ (s.e.l ++ s.l) := allA_snoc P s
  have ix1 := IX.takes hpos (s.e.l ++ s.l) ix hatoms (by rw [← eA]; exact hu)
  rw [e1, List.nil_append, ← eA] at ix1
  simp only at ix1
  have ix2 := ix1.settle fun p => dist (stmtR s c.2).1 p.2
  generalize hx : (stmtR s c.2).1 = x at e2 e3 e4 e5 ix2
  generalize hw : (stmtR s c.2).2 = w1 at ix1 ix2
  have hAD : ∀ a ∈ allA (P ++ [s]), 0 ≤ a.tmp → a.tmp ∈ D := by
    intro a ha
    rw [eA] at ha
    rcases List.mem_append.1 ha with ha | ha
    · exact ad a ha
    · exact hatoms a ha
  have pd' : ∀ s' ∈ P ++ [s], s'.kind = 2 → s'.tmp ∈ D' ∧ 0 ≤ s'.tmp := by
    intro s' hs' hk
    rcases List.mem_append.1 hs' with hs' | hs'
    · exact ⟨hD _ (pd s' hs' hk).1, (pd s' hs' hk).2⟩
    · simp only [List.mem_singleton] at hs'; subst hs'; exact ⟨(hset hk).1, (hset hk).2.1⟩
  have un' : ∀ s1 ∈ P ++ [s], ∀ s2 ∈ P ++ [s], s1.kind = 2 → s2.kind = 2 → s1.tmp = s2.tmp → s1 = s2 := by
    intro s1 h1 s2 h2 k1 k2 e
    rcases List.mem_append.1 h1 with g1 | g1 <;> rcases List.mem_append.1 h2 with g2 | g2
    · exact un s1 g1 s2 g2 k1 k2 e
    · simp only [List.mem_singleton] at g2
      rw [g2] at e k2
      exact ((hset k2).2.2 (by rw [← e]; exact (pd s1 g1 k1).1)).elim
    · simp only [List.mem_singleton] at g1
      rw [g1] at e k1
      exact ((hset k1).2.2 (by rw [e]; exact (pd s2 g2 k2).1)).elim
    · simp only [List.mem_singleton] at g1 g2; rw [g1, g2]
  have o1' : ∀ y ∈ c.1 ++ (w1.filter fun p => dist x p.2).map setT, y.kind = 2 → ∃ s' ∈ P, s'.kind = 2 ∧ s'.tmp = y.tmp ∧ sameE s' y.e := by
    intro y hy hk
    rcases List.mem_append.1 hy with hy | hy
    · exact o1 y hy hk
    · obtain ⟨p, hp, rfl⟩ := List.mem_map.1 hy
      obtain ⟨s', h1, h2, h3, h4, _⟩ := ix1.w1 p (List.mem_filter.1 hp).1
      exact ⟨s', h1, h2, h3, h4⟩
  have eo : outS (c.1 ++ (w1.filter fun p => dist x p.2).map setT) = outS c.1 ++ (w1.filter fun p => dist x p.2).map (·.1) := by rw [outS_append, outS_set]
  have el : lvO (c.1 ++ (w1.filter fun p => dist x p.2).map setT) = lvO c.1 ++ lvW (w1.filter fun p => dist x p.2) := by rw [lvO_append, lvO_set]
  have nd' : (outS (c.1 ++ (w1.filter fun p => dist x p.2).map setT)).Nodup := by
    rw [eo, List.nodup_append]
    refine ⟨nd, (List.filter_sublist.map _).nodup ix1.nd, ?_⟩
    intro a ha b' hb e
    obtain ⟨p, hp, rfl⟩ := List.mem_map.1 hb
    exact ix1.no p (List.mem_filter.1 hp).1 (by rw [← e]; exact ha)
  rw [← eo, ← el] at ix2
  unfold stepB
  simp only [hx, hw]
  generalize c.1 ++ (w1.filter fun p => dist x p.2).map setT = out at ix2 o1' nd'
  generalize (w1.filter fun p => !dist x p.2) = wk at ix2
  clear eo el o1 nd ix ix1 hw hx e1
  have fresh : s.kind = 2 → s.tmp ∉ lvO out ++ lvT ts ++ lvW wk := fun hk hm => (hset hk).2.2 (ix2.lf _ hm (hset hk).2.1)
  have c0 : s.kind = 2 → cntA (allA (P ++ [s])) s.tmp = 0 := fun hk => cnt_zero fun a ha e => (hset hk).2.2 (by rw [← e]; exact hAD a ha (by rw [e]; exact (hset hk).2.1))
  have wD : ∀ p ∈ wk, p.1 ∈ D := fun p hp => by
    obtain ⟨s', h1, h2, h3, _⟩ := ix2.w1 p hp
    rw [← h3]; exact (pd s' h1 h2).1
  have oD : ∀ t ∈ outS out, t ∈ D := fun t ht => by
    obtain ⟨y, hy, hk, rfl⟩ := outS_mem ht
    obtain ⟨s', h1, h2, h3, _⟩ := o1' y hy hk
    rw [← h3]; exact (pd s' h1 h2).1
  obtain ⟨nn, ndw, no, w1', st, lf⟩ := ix2
  by_cases hcs : s.kind = 2 ∧ usesM b s.tmp = 1 ∧ s.e.kind ≠ 1
  · rw [if_pos hcs]
    obtain ⟨hk, hu1, _⟩ := hcs
    have ew : lvW (wk ++ [(s.tmp, x.e)]) = lvW wk ++ lvT ts := by
      simp only [lvW, lvT, List.flatMap_append, List.map_append, List.flatMap_cons, List.flatMap_nil, List.append_nil, (e3 hk).1]
    have sub : ∀ t, t ∈ lvO out ++ lvT [] ++ lvW (wk ++ [(s.tmp, x.e)]) → t ∈ lvO out ++ lvT ts ++ lvW wk := by
      intro t ht
      rw [ew] at ht
      simp only [List.mem_append] at ht ⊢
      rcases ht with (ht | ht) | ht | ht
      · exact .inl (.inl ht)
      · simp [lvT, leavesL] at ht
      · exact .inr ht
      · exact .inl (.inr ht)
    refine ⟨⟨fun p hp => ?_, ?_, fun p hp => ?_, fun p hp => ?_, fun s' hs' hk' => ?_, fun t ht h0 => hD _ (lf t (sub t ht) h0)⟩, fun y hy hky => ?_, nd', pd', un', fun a ha h0 => hD _ (hAD a ha h0)⟩
    · rcases List.mem_append.1 hp with hp | hp
      · exact nn p hp
      · simp only [List.mem_singleton] at hp; subst hp; exact (hset hk).2.1
    · rw [List.map_append, List.nodup_append]
      refine ⟨ndw, by simp, ?_⟩
      intro a ha b' hb e
      simp only [List.map_cons, List.map_nil, List.mem_singleton] at hb
      obtain ⟨p, hp, rfl⟩ := List.mem_map.1 ha
      exact (hset hk).2.2 (by rw [← hb, ← e]; exact wD p hp)
    · rcases List.mem_append.1 hp with hp | hp
      · exact no p hp
      · simp only [List.mem_singleton] at hp; subst hp
        exact fun h => (hset hk).2.2 (oD _ h)
    · rcases List.mem_append.1 hp with hp | hp
      · obtain ⟨s', h1, h2⟩ := w1' p hp
        exact ⟨s', List.mem_append_left _ h1, h2⟩
      · simp only [List.mem_singleton] at hp; subst hp
        exact ⟨s, by simp, hk, rfl, (e3 hk).2, hu1⟩
    · rcases List.mem_append.1 hs' with g | g
      · rcases st s' g hk' with h | ⟨u, h1, h2, h3⟩ | ⟨u, h1, h2⟩
        · exact .inl h
        · exact .inr (.inl ⟨u, by rw [List.map_append]; exact List.mem_append_left _ h1, h2, fun hx => h3 (sub _ hx)⟩)
        · exact .inr (.inr ⟨u, h1, fun hx => h2 (sub _ hx)⟩)
      · simp only [List.mem_singleton] at g
        rw [g]
        exact .inr (.inl ⟨hu1, by simp, c0 hk, fun hx => fresh hk (sub _ hx)⟩)
    · obtain ⟨s', h1, h2⟩ := o1' y hy hky
      exact ⟨s', List.mem_append_left _ h1, h2⟩
  · rw [if_neg hcs]
    have eo2 : outS (out ++ [x]) = outS out ++ (if s.kind = 2 then [s.tmp] else []) := by
      rw [outS_append]
      congr 1
      by_cases hk : s.kind = 2
      · rw [if_pos hk]; simp [outS, e4, e5, hk]
      · rw [if_neg hk]; simp [outS, e4, hk]
    have el2 : lvO (out ++ [x]) = lvO out ++ lvT ts := by
      rw [lvO_append]
      simp [lvO, lvT, e2]
    have sub : ∀ t, t ∈ lvO (out ++ [x]) ++ lvT [] ++ lvW wk → t ∈ lvO out ++ lvT ts ++ lvW wk := by
      intro t ht
      rw [el2] at ht
      simp only [List.mem_append] at ht ⊢
      rcases ht with ((ht | ht) | ht) | ht
      · exact .inl (.inl ht)
      · exact .inl (.inr ht)
      · simp [lvT, leavesL] at ht
      · exact .inr ht
    refine ⟨⟨nn, ndw, fun p hp hm => ?_, fun p hp => ?_, fun s' hs' hk' => ?_, fun t ht h0 => hD _ (lf t (sub t ht) h0)⟩, fun y hy hky => ?_, ?_, pd', un', fun a ha h0 => hD _ (hAD a ha h0)⟩
    · rw [eo2] at hm
      rcases List.mem_append.1 hm with hm | hm
      · exact no p hp hm
      · split at hm
        · rename_i hk
          simp only [List.mem_singleton] at hm
          exact (hset hk).2.2 (by rw [← hm]; exact wD p hp)
        · simp at hm
    · obtain ⟨s', h1, h2⟩ := w1' p hp
      exact ⟨s', List.mem_append_left _ h1, h2⟩
    · rcases List.mem_append.1 hs' with g | g
      · rcases st s' g hk' with h | ⟨u, h1, h2, h3⟩ | ⟨u, h1, h2⟩
        · exact .inl (by rw [eo2]; exact List.mem_append_left _ h)
        · exact .inr (.inl ⟨u, h1, h2, fun hx => h3 (sub _ hx)⟩)
        · exact .inr (.inr ⟨u, h1, fun hx => h2 (sub _ hx)⟩)
      · simp only [List.mem_singleton] at g
        rw [g] at hk' ⊢
        exact .inl (by rw [eo2, if_pos hk']; simp)
    · rcases List.mem_append.1 hy with hy | hy
      · obtain ⟨s', h1, h2⟩ := o1' y hy hky
        exact ⟨s', List.mem_append_left _ h1, h2⟩
      · simp only [List.mem_singleton] at hy
        rw [hy] at hky ⊢
        have hk : s.kind = 2 := by rw [← e4]; exact hky
        exact ⟨s, by simp, hk, e5.symm, (e3 hk).2⟩
    · rw [eo2]
      by_cases hk : s.kind = 2
      · rw [if_pos hk, List.nodup_append]
        refine ⟨nd', by simp, ?_⟩
        intro a ha b' hb e
        simp only [List.mem_singleton] at hb
        exact (hset hk).2.2 (by rw [← hb, ← e]; exact oD _ ha)
      · rw [if_neg hk, List.append_nil]; exact nd'

theorem IV.all {b : Block} (dist : TStmt → Tree → Bool) : ∀ (r P : List Stmt) (D E : List Int) (c : List TStmt × Wt), b.l = P ++ r → chkL b.tmps D r = some E → IV b P D c → IV b b.l E (r.foldl (stepB dist stmtR (usesM b)) c)
  | [], P, D, E, c, hb, hc, h => by
    rw [chkL] at hc
    cases hc
    rw [List.append_nil] at hb
    rw [hb]; exact h
  | s :: r, P, D, E, c, hb, hc, h => by
    rw [chkL] at hc
    simp only [Option.bind_eq_some_iff] at hc
    obtain ⟨D1, h1, h2⟩ := hc
    have hb' : b.l = (P ++ [s]) ++ r := by rw [hb]; simp
    have hu : ∀ t, (cntA (allA (P ++ [s])) t : Int) ≤ usesM b t := by
      intro t
      have e : allA b.l = allA (P ++ [s]) ++ allA r := by rw [hb']; simp [allA]
      have := uses_cnt b t
      rw [e, cntA_append, cntA_append] at this
      omega
    rw [List.foldl_cons]
    exact IV.all dist r (P ++ [s]) D1 E _ hb' h2 (h.step h1 hu dist)

/-- The law of TreeOnce. -/
theorem once_law {b : Block} (herr : errB b = 0) : ∀ s ∈ b.l, s.kind = 2 →
    (∀ x ∈ (buildR b).1.l, x.kind = 2 → x.tmp = s.tmp → sameE s x.e) ∧ (outS (buildR b).1.l).Nodup ∧ (s.tmp ∉ outS (buildR b).1.l → usesM b s.tmp = 1 ∧ withinM (buildR b).1 s.tmp = false) := by
  obtain ⟨_, _, D, hc, hend⟩ := okB_facts herr
  have h0 : IV b [] [] ([], []) := by
    refine ⟨⟨fun p hp => by simp at hp, by simp, fun p hp => by simp at hp, fun p hp => by simp at hp, fun s hs => by simp at hs, fun t ht => by simp [lvO, lvT, lvW, leavesL] at ht⟩, fun x hx => by simp at hx, by simp [outS], fun s hs => by simp at hs, fun s hs => by simp at hs, fun a ha => by simp [allA] at ha⟩
  have h := IV.all (distM b.tmps) b.l [] [] D ([], []) (by simp) hc h0
  have h : IV b b.l D (stB b b.l) := h
  have hbuild : buildR b = (⟨b.tmps, (stB b b.l).1, (pickR b.next.tmp (leafT b.next) (stB b b.l).2).1, b.jump, b.spans⟩, 0) := by
    unfold buildR; rw [if_neg (by simpa using herr)]
  rw [hbuild]
  generalize stB b b.l = c at h
  obtain ⟨ix, o1, nd, pd, un, ad⟩ := h
  have hnx : 0 ≤ b.next.tmp → b.next.tmp ∈ D := by
    intro h0
    unfold endB at hend
    simp only [Bool.and_eq_true, Bool.or_eq_true, decide_eq_true_eq] at hend
    rcases hend.2.1 with h | h
    · omega
    · exact List.contains_iff_mem.1 h
  have ix1 := ix.take (fun s hs hk => (pd s hs hk).2) b.next hnx fun t => Int.le_of_eq (uses_cnt b t)
  intro s hs hk
  refine ⟨fun x hx hkx ht => ?_, nd, fun hno => ?_⟩
  · obtain ⟨s', h1, h2, h3, h4⟩ := o1 x hx hkx
    have : s = s' := un s hs s' h1 hk h2 (by rw [h3, ht])
    rw [this]; exact h4
  · have key : usesM b s.tmp = 1 ∧ s.tmp ∉ lvO c.1 ++ lvT ([] ++ [(pickR b.next.tmp (leafT b.next) c.2).1]) ++ lvW (pickR b.next.tmp (leafT b.next) c.2).2 := by
      rcases ix1.st s hs hk with h | ⟨u, _, _, h⟩ | ⟨u, _, h⟩
      · exact (hno h).elim
      · exact ⟨u, h⟩
      · exact ⟨u, h⟩
    refine ⟨key.1, ?_⟩
    unfold withinM
    rw [List.any_eq_false]
    intro a ha e
    have e : a.tmp = s.tmp := by simpa using e
    refine key.2 ?_
    rw [← e]
    unfold allL at ha
    simp only [List.mem_append]
    rcases List.mem_append.1 ha with ha | ha
    · refine .inl (.inr ?_)
      simp only [lvT, List.nil_append, leavesL, List.append_nil]
      exact List.mem_map_of_mem ha
    · exact .inl (.inl (List.mem_map_of_mem ha))
end Go.Sv
end
section
namespace Go.Sv
open Go Go.Proofs
set_option linter.all false
set_option maxRecDepth 1000000
set_option maxHeartbeats 0
def h6 : H := { hh with live := fun b => match b with | 0 => [(2, 2), (5, 1)] | 2 => [(2, 2), (6, 1), (8, 1)] | _ => [], keep := fun b => match b with | 12 => some [(25, 2)] | 60 => some [(81, 2)] | 90 => some [(124, 2)] | 125 => some [(151, 2)] | _ => none }

noncomputable def G6 (bb xb : Nat) (u0 : T31) (j : Int) : List SV → St → Option (Ex × List SV × St) := (fun vs36 S37 => openHd vs36 fun y38 r39 => openBool y38 fun b40 => openHd r39 fun y41 r42 => openInt y41 fun a43 => openHd r42 fun y44 r45 => openInt y44 fun a46 => (loadE (kt.at 6) 34 (.ptr bb 1) S37).bind fun r47 => (lenE (kt.at 6) 34 r47).bind fun r48 => openInt r48 fun a49 => (splitB (.v (.bool (decide (a46 < a49))))
 (((if bb < (St.next S37) then (loadE (kt.at 6) 34 (.ptr bb 1) S37).bind fun r50 => (indexAddrE (kt.at 6) 34 r50 (.v (.int .i64 a46))).bind fun r51 => openCp cd59 r51 fun t52 => (splitB (.v (.bool (t52.kind == (2 : Int))))
 ((if bb < (St.next S37) then (loadE (kt.at 6) 34 (.ptr bb 1) S37).bind fun r53 => (indexAddrE (kt.at 6) 34 r53 (.v (.int .i64 a46))).bind fun r54 => openCp cd59 r54 fun t55 => (indexAddrE (kt.at 6) 23 u0.l (.v (.int .i64 j))).bind fun r56 => openCp cd57 r56 fun t57 => (some [(.v (.bool (t55.tmp == t57.tmp)))]) else none))
 ((some [(.v (.bool false))]))) else none)).bind fun vs58 => openHd vs58 fun y59 r60 => openBool y59 fun b61 => (splitB (.v (.bool b61))
 ((loadE (kt.at 6) 34 (.ptr bb 1) S37).bind fun r62 => (indexAddrE (kt.at 6) 34 r62 (.v (.int .i64 a46))).bind fun r63 => openCp cd59 r63 fun t64 => storeK (kt.at 6) 37 (.ptr (St.next S37) 0) (.agg [(.v (.int .i64 t64.e_A_Tmp)), (.v (.int .i64 t64.e_A_Ty)), (.v (.int .u32 t64.e_A_C0)), (.v (.int .u32 t64.e_A_C1)), (.v (.int .u32 t64.e_A_C2)), (.v (.int .u32 t64.e_A_C3)), (.v (.int .i64 t64.e_Kind)), (.v (.int .i64 t64.e_Ty)), (.v (.int .i64 t64.e_Op)), (.v (.int .i64 t64.e_Off)), t64.e_L]) (St.alloc S37 (.cells [(.v (.int .i64 (0 : Int))), (.v (.int .i64 (0 : Int))), (.v (.int .u32 (0 : Int))), (.v (.int .u32 (0 : Int))), (.v (.int .u32 (0 : Int))), (.v (.int .u32 (0 : Int))), (.v (.int .i64 (0 : Int))), (.v (.int .i64 (0 : Int))), (.v (.int .i64 (0 : Int))), (.v (.int .i64 (0 : Int))), (.v (.slice none 0 0))])) fun S65 => ((loadE (kt.at 6) 3 (.ptr xb 0) S65).bind fun r66 => openInt r66 fun a67 => (loadE (kt.at 6) 3 (.ptr (St.next S37) 6) S65).bind fun r68 => openInt r68 fun a69 => (splitB (.v (.bool (a67 != a69)))
 ((some [(.v (.bool true))]))
 ((loadE (kt.at 6) 3 (.ptr xb 1) S65).bind fun r70 => openInt r70 fun a71 => (loadE (kt.at 6) 3 (.ptr (St.next S37) 7) S65).bind fun r72 => openInt r72 fun a73 => (splitB (.v (.bool (a71 != a73)))
 ((some [(.v (.bool true))]))
 ((loadE (kt.at 6) 3 (.ptr xb 2) S65).bind fun r74 => openInt r74 fun a75 => (loadE (kt.at 6) 3 (.ptr (St.next S37) 8) S65).bind fun r76 => openInt r76 fun a77 => (splitB (.v (.bool (a75 != a77)))
 ((some [(.v (.bool true))]))
 ((loadE (kt.at 6) 3 (.ptr xb 3) S65).bind fun r78 => openInt r78 fun a79 => (loadE (kt.at 6) 3 (.ptr (St.next S37) 9) S65).bind fun r80 => openInt r80 fun a81 => (splitB (.v (.bool (a79 != a81)))
 ((some [(.v (.bool true))]))
 ((loadE (kt.at 6) 53 (.ptr xb 4) S65).bind fun r82 => (lenE (kt.at 6) 53 r82).bind fun r83 => openInt r83 fun a84 => (loadE (kt.at 6) 35 (.ptr (St.next S37) 10) S65).bind fun r85 => (lenE (kt.at 6) 35 r85).bind fun r86 => openInt r86 fun a87 => (some [(.v (.bool (a84 != a87)))])))))))))).bind fun vs88 => openHd vs88 fun y89 r90 => openBool y89 fun b91 => (splitB (.v (.bool b91))
 ((some (.ret, ([(.v (.bool false)), (.v (.int .i64 (IntKind.wrap .i64 (a43 + (1 : Int))))), (.v (.int .i64 a46))], S65))))
 ((some (.normal, ([(.v (.bool b40)), (.v (.int .i64 (IntKind.wrap .i64 (a43 + (1 : Int))))), (.v (.int .i64 (IntKind.wrap .i64 (a46 + (1 : Int)))))], S65))))))
 ((some (.normal, ([(.v (.bool b40)), (.v (.int .i64 a43)), (.v (.int .i64 (IntKind.wrap .i64 (a46 + (1 : Int)))))], S37))))))
 ((some ((.exit 2), ([(.v (.bool b40)), (.v (.int .i64 a43)), (.v (.int .i64 a46))], S37))))))
noncomputable def F6 (N bb : Nat) (u0 : T31) : List SV → St → Option (Ex × List SV × St) := (fun vs21 S22 => openHd vs21 fun y23 r24 => openBool y23 fun b25 => openHd r24 fun y26 r27 => openInt y26 fun a28 => (lenE (kt.at 6) 23 u0.l).bind fun r29 => openInt r29 fun a30 => (splitB (.v (.bool (decide (a28 < a30))))
 ((indexAddrE (kt.at 6) 23 u0.l (.v (.int .i64 a28))).bind fun r31 => openCp cd57 r31 fun t32 => (splitB (.v (.bool (t32.kind != (2 : Int))))
 ((some (.normal, ([(.v (.bool b25)), (.v (.int .i64 (IntKind.wrap .i64 (a28 + (1 : Int)))))], S22))))
 ((indexAddrE (kt.at 6) 23 u0.l (.v (.int .i64 a28))).bind fun r33 => openCp cd57 r33 fun t34 => storeK (kt.at 6) 55 (.ptr (St.next S22) 0) (.agg [(.v (.int .i64 t34.e_Kind)), (.v (.int .i64 t34.e_Ty)), (.v (.int .i64 t34.e_Op)), (.v (.int .i64 t34.e_Off)), t34.e_L]) (St.alloc S22 (.cells [(.v (.int .i64 (0 : Int))), (.v (.int .i64 (0 : Int))), (.v (.int .i64 (0 : Int))), (.v (.int .i64 (0 : Int))), (.v (.slice none 0 0))])) fun S35 => (iter (G6 bb (St.next S22) u0 a28) N [(.v (.bool b25)), (.v (.int .i64 (0 : Int))), (.v (.int .i64 (0 : Int)))] S35).bind fun q92 => openHd q92.2.1 fun y93 r94 => openBool y93 fun b95 => openHd r94 fun y96 r97 => openInt y96 fun a98 => openHd r97 fun y99 r100 => openInt y99 fun a101 => (exits q92.1 (fun i102 => (if i102 = 2 then ((splitB (.v (.bool (decide (a98 > (1 : Int)))))
 ((if (decide (bb < (St.next q92.2.2))) = true then (some [(.v (.bool true))]) else none))
 ((splitB (.v (.bool (a98 == (0 : Int))))
 ((indexAddrE (kt.at 6) 23 u0.l (.v (.int .i64 a28))).bind fun r103 => openCp cd57 r103 fun t104 => (run kt (.func 26 [] []) [(.agg u0.enc), (.v (.int .i64 t104.tmp))] q92.2.2).bind fun p105 => openInt p105.1 fun a106 => (splitB (.v (.bool (a106 != (1 : Int))))
 ((if (decide (bb < (St.next q92.2.2))) = true then (some [(.v (.bool true))]) else none))
 ((if bb < (St.next q92.2.2) then (loadE (kt.at 6) 39 (.ptr bb 0) p105.2).bind fun r107 => openAgg cd39 r107 fun t108 => (indexAddrE (kt.at 6) 23 u0.l (.v (.int .i64 a28))).bind fun r109 => openCp cd57 r109 fun t110 => (run kt (.func 27 [] []) [(.agg t108.enc), (.v (.int .i64 t110.tmp))] p105.2).bind fun p111 => openBool p111.1 fun b112 => (some [(.v (.bool b112))]) else none))))
 ((if (decide (bb < (St.next q92.2.2))) = true then (some [(.v (.bool false))]) else none)))))).bind fun vs113 => openHd vs113 fun y114 r115 => openBool y114 fun b116 => (splitB (.v (.bool b116))
 ((some (.ret, ([(.v (.bool false)), (.v (.int .i64 a28))], q92.2.2))))
 ((some (.normal, ([(.v (.bool b95)), (.v (.int .i64 (IntKind.wrap .i64 (a28 + (1 : Int)))))], q92.2.2))))) else (if i102 = 1 then (some (.normal, ([(.v (.bool b95)), (.v (.int .i64 (IntKind.wrap .i64 (a28 + (1 : Int)))))], q92.2.2))) else (some ((.exit i102), ([(.v (.bool b95)), (.v (.int .i64 a28))], q92.2.2)))))) ((some (.ret, ([(.v (.bool b95)), (.v (.int .i64 a28))], q92.2.2))))))))
 ((some ((.exit 0), ([(.v (.bool b25)), (.v (.int .i64 a28))], S22))))))
theorem tell6 (N : Nat) (u0 : T31) : cBody (kt.at 6) h6 (run kt) N (compF Tryz.f6) [.agg u0.enc] St0 = (run kt (.func 12 [] []) [] St0).bind fun p0 => openBool p0.1 fun b1 => (splitB (.v (.bool (!b1)))
 ((some ((.v (.bool false)), p0.2)))
 (((run kt (.func 13 [] []) [(.agg u0.enc)] p0.2).bind fun p2 => openBool p2.1 fun b3 => (splitB (.v (.bool (!b3)))
 ((some [(.v (.bool true))]))
 ((lenE (kt.at 6) 23 u0.l).bind fun r4 => openInt r4 fun a5 => (splitB (.v (.bool (decide (a5 > (100 : Int)))))
 ((some [(.v (.bool true))]))
 ((run kt (.func 23 [] []) [(.agg u0.enc)] p2.2).bind fun p6 => openInt p6.1 fun a7 => (some [(.v (.bool (a7 != (0 : Int))))])))))).bind fun vs8 => openHd vs8 fun y9 r10 => openBool y9 fun b11 => (splitB (.v (.bool b11))
 ((some ((.v (.bool true)), p0.2)))
 ((run kt (.func 14 [] []) [(.agg u0.enc)] p0.2).bind fun p12 => openTup p12.1 fun l13 => openHd l13 fun y14 r15 => openAgg cd39 y14 fun t16 => openHd r15 fun y17 r18 => openInt y17 fun a19 => openNil r18 (storeK (kt.at 6) 39 (.ptr (St.next p12.2) 0) (.agg t16.enc) (St.alloc p12.2 (.cells [(.v (.slice none 0 0)), (.v (.slice none 0 0)), (.v (.int .i64 (0 : Int))), (.v (.int .i64 (0 : Int))), (.v (.int .u32 (0 : Int))), (.v (.int .u32 (0 : Int))), (.v (.int .u32 (0 : Int))), (.v (.int .u32 (0 : Int))), (.v (.int .i64 (0 : Int))), (.v (.int .i64 (0 : Int))), (.v (.int .i64 (0 : Int))), (.v (.int .i64 (0 : Int))), (.v (.slice none 0 0)), (.v (.int .i64 (0 : Int))), (.v (.slice none 0 0))])) fun S20 => (splitB (.v (.bool (a19 != (0 : Int))))
 ((some ((.v (.bool false)), S20)))
 ((iter (F6 N (St.next p12.2) u0) N [(.v (.bool false)), (.v (.int .i64 (0 : Int)))] S20).bind fun q117 => openHd q117.2.1 fun y118 r119 => openBool y118 fun b120 => openHd r119 fun y121 r122 => openInt y121 fun a123 => (exits q117.1 (fun i124 => (if i124 = 0 then (some ((.v (.bool true)), q117.2.2)) else none)) ((some ((.v (.bool b120)), q117.2.2)))))))))))  := by kernel_rfl
theorem fn6 : fnsK 6 = some (compF Tryz.f6) := by kernel_rfl
end Go.Sv
end
