/- Parts of the proofs of this seat's laws. -/
import Derived.Test.YtkflapebfmcmaaaGreatBOnce07
section
set_option linter.all false
/- Regions whose operations stand in no order of their own. -/
namespace Go.Sv
open Go

section
variable {k : K} {cf : CallF}

theorem evD1_some {m : Nat} {o : COp} (hd : isDefer o.op = false) {fr : Fr} {S : St} {r : Fr × St} : evD1 k cf m o fr S = some r ↔ loadOK m o fr.ρ = true ∧ m ≤ S.next ∧ m ≤ r.2.next ∧ ∃ x, gval k cf o fr.ρ S = some (x, r.2) ∧ r.1 = fr.put o.dst x := by
  unfold evD1
  rw [evOps_one hd]
  constructor
  · intro h
    split at h
    · rename_i hc
      simp only [Option.bind_eq_some_iff, Option.map_eq_some_iff] at h
      obtain ⟨r', ⟨p, hp, rfl⟩, h⟩ := h
      split at h
      · rename_i hm
        simp only [Option.some.injEq] at h
        subst h
        exact ⟨hc.1, hc.2, hm, p.1, hp, rfl⟩
      · cases h
    · cases h
  · rintro ⟨h1, h2, h3, x, h4, h5⟩
    rw [if_pos ⟨h1, h2⟩, h4]
    simp only [Option.map_some, Option.bind_some]
    rw [if_pos h3, ← h5]

theorem put_ρ (fr : Fr) (d : Option Nat) (x : SV) (t : Nat) : (fr.put d x).ρ t = if d = some t then x else fr.ρ t := by
  cases d with
  | none => simp [Fr.put]
  | some d =>
    simp only [Fr.put, upd, Option.some.injEq]
    by_cases h : t = d
    · simp [h]
    · simp [h, Ne.symm h]

theorem put_ds (fr : Fr) (d : Option Nat) (x : SV) : (fr.put d x).ds = fr.ds := by cases d <;> rfl

theorem fr_ext {a b : Fr} (h : ∀ t, a.ρ t = b.ρ t) (k : a.ds = b.ds) : a = b := by
  cases a; cases b; simp at *; exact ⟨funext h, k⟩

theorem put_comm (fr : Fr) {d e : Option Nat} (x y : SV) (h : ∀ t, d = some t → e ≠ some t) : (fr.put d x).put e y = (fr.put e y).put d x := by
  refine fr_ext (fun t => ?_) (by simp [put_ds])
  simp only [put_ρ]
  by_cases h1 : d = some t
  · have := h t h1
    simp [h1, this]
  · simp [h1]

theorem loadOK_congr {m : Nat} {o : COp} {ρ ρ' : Nat → SV} (h : ∀ t ∈ reads o, ρ t = ρ' t) : loadOK m o ρ = loadOK m o ρ' := by
  obtain ⟨d, op, ty, g⟩ := o
  cases op with
  | load t a =>
    simp only [loadOK]
    rw [ev_congr fun t ht => h t (by simp [reads, opReads, ht])]
  | _ => rfl

/-- What may change places: nothing clashes, or a read that is watched. -/
def free (k : K) (deps : List (List Nat)) (a b : Nat × COp) : Prop :=
  conflict k a.2 b.2 = false ∨ (soft k a.2 b.2 = true ∧ (deps.getD b.1 []).contains a.1 = false)

def stepW (k : K) (cf : CallF) (deps : List (List Nat)) (m : Nat) (o : Nat × COp) (W : Watch) (fr : Fr) (S : St) : Option (Watch × Fr × St) :=
  (evD1 k cf m o.2 fr S).bind fun p => if asked k (askW k deps o.1 o.2 W) S p.2 = true then some (addW o.1 o.2 fr.ρ W, p.1, p.2) else none

theorem evOpsD_cons {deps : List (List Nat)} {m : Nat} (o : Nat × COp) (r : List (Nat × COp)) (W : Watch) (fr : Fr) (S : St) : evOpsD k cf deps m (o :: r) W fr S = (stepW k cf deps m o W fr S).bind fun q => evOpsD k cf deps m r q.1 q.2.1 q.2.2 := by
  simp only [evOpsD, stepW]
  cases evD1 k cf m o.2 fr S with
  | none => rfl
  | some p =>
    simp only [Option.bind_some]
    split <;> rfl

theorem asked_sub {ws ws' : List (TypeId × SV)} {S S' : St} (h : ∀ w ∈ ws', w ∈ ws) (k1 : asked k ws S S' = true) : asked k ws' S S' = true := by
  unfold asked at k1 ⊢
  rw [List.all_eq_true] at k1 ⊢
  exact fun w hw => k1 w (h w hw)

theorem askW_sub {deps : List (List Nat)} {i : Nat} {o : COp} {W W' : Watch} (h : ∀ w ∈ W', w ∈ W) : ∀ w ∈ askW k deps i o W', w ∈ askW k deps i o W := by
  intro w hw
  unfold askW at hw ⊢
  split at hw
  · rename_i hc
    rw [if_pos hc]
    rw [List.mem_map] at hw ⊢
    obtain ⟨p, hp, rfl⟩ := hw
    rw [List.mem_filter] at hp
    exact ⟨p, List.mem_filter.2 ⟨h p hp.1, hp.2⟩, rfl⟩
  · cases hw

theorem addW_sub {i : Nat} {o : COp} {ρ : Nat → SV} {W W' : Watch} (h : ∀ w ∈ W', w ∈ W) : ∀ w ∈ addW i o ρ W', w ∈ addW i o ρ W := by
  intro w hw
  unfold addW at hw ⊢
  split at hw
  · rcases List.mem_cons.1 hw with rfl | hw
    · exact List.mem_cons_self ..
    · exact List.mem_cons_of_mem _ (h w hw)
  · exact h w hw

theorem addW_mem {i : Nat} {o : COp} {ρ : Nat → SV} {W : Watch} : ∀ w ∈ W, w ∈ addW i o ρ W := by
  intro w hw
  unfold addW
  split
  · exact List.mem_cons_of_mem _ hw
  · exact hw

/-- Fewer watches, no more is asked. -/
theorem evOpsD_sub {deps : List (List Nat)} {m : Nat} {z : Fr × St} : ∀ (l : List (Nat × COp)) (W W' : Watch) (fr : Fr) (S : St), (∀ w ∈ W', w ∈ W) → evOpsD k cf deps m l W fr S = some z → evOpsD k cf deps m l W' fr S = some z
  | [], _, _, _, _, _, h => h
  | o :: r, W, W', fr, S, hw, h => by
    simp only [evOpsD, Option.bind_eq_some_iff] at h ⊢
    obtain ⟨p, h1, h2⟩ := h
    refine ⟨p, h1, ?_⟩
    split at h2
    · rename_i hc
      rw [if_pos (asked_sub (askW_sub hw) hc)]
      exact evOpsD_sub r _ _ _ _ (addW_sub hw) h2
    · cases h2

theorem eqV_eq {u u' : Value} (h : eqV u u' = true) : u = u' := by
  unfold eqV at h
  split at h <;> first | (cases h; done) | (split at h <;> first | rfl | (cases h; done) | (simp at h; rw [h.1, h.2]) | (simp at h; rw [h]))

mutual
theorem eqSV_eq : ∀ (x y : SV), eqSV x y = true → x = y
  | .v u, y, h => by
    cases y <;> simp [eqSV] at h
    rw [eqV_eq h]
  | .sl i n cs, y, h => by
    cases y <;> simp [eqSV] at h
    obtain ⟨h1, h2, h3⟩ := h
    rw [h1, h2, eqSVs_eq cs _ h3]
  | .arr b n, y, h => by
    cases y <;> simp [eqSV] at h
    rw [h.1, h.2]
  | .ptr b n, y, h => by
    cases y <;> simp [eqSV] at h
    rw [h.1, h.2]
  | .cp cs, y, h => by
    cases y <;> simp [eqSV] at h
    rw [eqSVs_eq cs _ h]
  | .map b, y, h => by
    cases y <;> simp [eqSV] at h
    rw [h]
  | .agg cs, y, h => by
    cases y <;> simp [eqSV] at h
    rw [eqSVs_eq cs _ h]
  | .emp, y, h => by cases y <;> simp [eqSV] at h ⊢
  | .func _ _ _, y, h => by simp [eqSV] at h
  | .yield _, y, h => by simp [eqSV] at h
  | .tuple _, y, h => by simp [eqSV] at h
  | .top, y, h => by simp [eqSV] at h
theorem eqSVs_eq : ∀ (x y : List SV), eqSVs x y = true → x = y
  | [], y, h => by cases y <;> simp [eqSVs] at h ⊢
  | x :: r, y, h => by
    cases y <;> simp [eqSVs] at h
    rw [eqSV_eq x _ h.1, eqSVs_eq r _ h.2]
end

theorem eqO_eq {x y : Option SV} (h : eqO x y = true) : x = y := by
  cases x <;> cases y <;> simp [eqO] at h ⊢
  exact eqSV_eq _ _ h

theorem beq_cl {a b : Cl} : (a == b) = true ↔ a = b := by cases a <;> cases b <;> decide

/-- A read is as it was where its place has stayed. -/
theorem gval_load_kept {o : COp} {ρ : Nat → SV} {S S2 : St} {x : SV} {t : TypeId} {a : Operand} (ho : o.op = .load t a) (hk : isPtr (ev ρ a) = true → kept k (t, ev ρ a) S S2 = true) (h : gval k cf o ρ S = some (x, S)) : gval k cf o ρ S2 = some (x, S2) := by
  have hsame : loadE k t (ev ρ a) S2 = loadE k t (ev ρ a) S := by
    by_cases hp : isPtr (ev ρ a) = true
    · exact (eqO_eq (hk hp)).symm
    · refine loadE_same fun b off e => ?_
      rw [e] at hp; exact absurd rfl hp
  have go : gop k cf o ρ S = some (x, S) → gop k cf o ρ S2 = some (x, S2) := by
    intro h
    rw [gop_load ho] at h ⊢
    rw [hsame]
    simp only [Option.map_eq_some_iff, Prod.mk.injEq] at h ⊢
    obtain ⟨y, h1, rfl, _⟩ := h
    exact ⟨y, h1, by simp⟩
  have sk : some (SV.v undef, S) = some (x, S) → some (SV.v undef, S2) = some (x, S2) := by
    intro h; simp only [Option.some.injEq, Prod.mk.injEq] at h; rw [h.1]
  unfold gval at h ⊢
  split at h
  · exact go h
  · split at h
    · cases h
    · split at h
      · rename_i hbw; rw [if_pos hbw]; exact go h
      · rename_i hbw; rw [if_neg hbw]; exact sk h
    · exact sk h

/-- Two operations that do not clash change places. -/
theorem swap (hcf : Closed k cf) {deps : List (List Nat)} {m : Nat} {a b : Nat × COp} (ha : isDefer a.2.op = false) (hb : isDefer b.2.op = false) (hc : free k deps a b) {W : Watch} {fr : Fr} {S : St} {z : Watch × Fr × St} (h : ((stepW k cf deps m a W fr S).bind fun p => stepW k cf deps m b p.1 p.2.1 p.2.2) = some z) :
    ∃ W', (∀ w ∈ W', w ∈ z.1) ∧ ((stepW k cf deps m b W fr S).bind fun p => stepW k cf deps m a p.1 p.2.1 p.2.2) = some (W', z.2) := by
  simp only [Option.bind_eq_some_iff] at h ⊢
  obtain ⟨⟨W1, f1, S1⟩, h1, h2⟩ := h
  simp only [stepW, Option.bind_eq_some_iff] at h1 h2
  obtain ⟨p1, h1, k1⟩ := h1
  obtain ⟨p2, h2, k2⟩ := h2
  split at k1
  case isFalse => cases k1
  rename_i c1
  split at k2
  case isFalse => cases k2
  rename_i c2
  simp only [Option.some.injEq, Prod.mk.injEq] at k1 k2
  obtain ⟨rfl, rfl, rfl⟩ := k1
  subst k2
  rw [evD1_some ha] at h1
  obtain ⟨la, m0, m1, x, ga, hf1⟩ := h1
  rw [evD1_some hb] at h2
  obtain ⟨lb, _, m2, y, gb, hz⟩ := h2
  obtain ⟨f1, S1⟩ := p1
  obtain ⟨f2, S2⟩ := p2
  simp only at m1 ga hf1 lb gb m2 hz c1 c2
  subst hf1
  have htouch : touch a.2 b.2 = false := by
    rcases hc with hc | ⟨hc, _⟩
    · simp only [conflict, Bool.or_eq_false_iff] at hc; exact hc.2
    · simp only [soft, Bool.and_eq_true, Bool.not_eq_true'] at hc; exact hc.2
  simp only [touch, Bool.or_eq_false_iff] at htouch
  obtain ⟨hd1, hd2⟩ := htouch
  have rb : ∀ t ∈ reads b.2, (fr.put a.2.dst x).ρ t = fr.ρ t := by
    intro t ht
    rw [put_ρ]
    split
    · rename_i he
      rw [he] at hd1
      simp only [Bool.or_eq_false_iff] at hd1
      have : (reads b.2).contains t = true := by simpa using ht
      rw [hd1.1] at this; cases this
    · rfl
  have ra : ∀ y, ∀ t ∈ reads a.2, (fr.put b.2.dst y).ρ t = fr.ρ t := by
    intro y t ht
    rw [put_ρ]
    split
    · rename_i he
      rw [he] at hd2
      have : (reads a.2).contains t = true := by simpa using ht
      simp only [] at hd2
      rw [hd2] at this; cases this
    · rfl
  have hdd : ∀ t, b.2.dst = some t → a.2.dst ≠ some t := by
    intro t h1 h2
    rw [h2] at hd1
    simp only [Bool.or_eq_false_iff, h1] at hd1
    simp at hd1
  rw [gval_congr rb] at gb
  rw [loadOK_congr rb] at lb
  have hadd : ∀ {i : Nat} {o : COp} {ρ ρ' : Nat → SV} {W : Watch}, (∀ t ∈ reads o, ρ t = ρ' t) → addW i o ρ W = addW i o ρ' W := by
    intro i o ρ ρ' W h
    obtain ⟨d, op, ty, g⟩ := o
    cases op with
    | load t a => simp only [addW]; rw [ev_congr fun t ht => h t (by simp [reads, opReads, ht])]
    | _ => rfl
  -- b at S, then a
  have key : ∃ S2', gval k cf b.2 fr.ρ S = some (y, S2') ∧ m ≤ S2'.next ∧ gval k cf a.2 fr.ρ S2' = some (x, S2) ∧ asked k (askW k deps b.1 b.2 W) S S2' = true ∧ asked k (askW k deps a.1 a.2 (addW b.1 b.2 fr.ρ W)) S2' S2 = true := by
    have notwild : ∀ {i : Nat} {o : COp} {W : Watch} {S S' : St}, cls k o ≠ .wild → asked k (askW k deps i o W) S S' = true := by
      intro i o W S S' hne
      simp only [askW, if_neg hne]; rfl
    have c2' : S = S1 → asked k (askW k deps b.1 b.2 W) S S2 = true := by
      rintro rfl
      exact asked_sub (askW_sub addW_mem) c2
    have addpure : ∀ {i : Nat} {o : COp} {ρ : Nat → SV} {W : Watch}, cls k o ≠ .load → addW i o ρ W = W := by
      intro i o ρ W hne
      obtain ⟨d, op, ty, g⟩ := o
      cases op with
      | load t a => exact absurd rfl hne
      | _ => rfl
    rcases hc with hc | ⟨hc, hnd⟩
    · simp only [conflict, Bool.or_eq_false_iff] at hc
      have hcl := hc.1
      cases hca : cls k a.2 with
      | pure =>
        obtain ⟨rfl, hall⟩ := gval_pure hcf hca ga
        exact ⟨_, gb, m2, hall _, c2' rfl, notwild (by rw [hca]; simp)⟩
      | load =>
        have hS := gval_load hca ga
        subst hS
        cases hcb : cls k b.2 with
        | pure =>
          obtain ⟨e, hall⟩ := gval_pure hcf hcb gb
          subst e
          exact ⟨_, gb, m0, ga, c2' rfl, notwild (by rw [hca]; simp)⟩
        | load =>
          have e := gval_load hcb gb
          subst e
          exact ⟨_, gb, m0, ga, c2' rfl, notwild (by rw [hca]; simp)⟩
        | peek =>
          have e := gval_peek hcf hcb gb
          subst e
          exact ⟨_, gb, m0, ga, c2' rfl, notwild (by rw [hca]; simp)⟩
        | grow =>
          have hs := gval_grow (m := m) hcf m0 hcb gb
          exact ⟨_, gb, m2, gval_load_same hca la hs ga, c2' rfl, notwild (by rw [hca]; simp)⟩
        | wild => rw [hca, hcb] at hcl; cases hcl
      | peek =>
        have hS := gval_peek hcf hca ga
        subst hS
        cases hcb : cls k b.2 with
        | pure =>
          obtain ⟨e, hall⟩ := gval_pure hcf hcb gb
          subst e
          exact ⟨_, gb, m0, ga, c2' rfl, notwild (by rw [hca]; simp)⟩
        | load =>
          have e := gval_load hcb gb
          subst e
          exact ⟨_, gb, m0, ga, c2' rfl, notwild (by rw [hca]; simp)⟩
        | peek =>
          have e := gval_peek hcf hcb gb
          subst e
          exact ⟨_, gb, m0, ga, c2' rfl, notwild (by rw [hca]; simp)⟩
        | grow => rw [hca, hcb] at hcl; cases hcl
        | wild => rw [hca, hcb] at hcl; cases hcl
      | grow =>
        cases hcb : cls k b.2 with
        | pure =>
          obtain ⟨e, hall⟩ := gval_pure hcf hcb gb
          subst e
          exact ⟨_, hall _, m0, ga, notwild (by rw [hcb]; simp), notwild (by rw [hca]; simp)⟩
        | load =>
          have e := gval_load hcb gb
          subst e
          have hs := gval_grow (m := m) hcf m0 hca ga
          exact ⟨_, gval_load_same hcb lb (fun b hb => (hs b hb).symm) gb, m0, ga, notwild (by rw [hcb]; simp), notwild (by rw [hca]; simp)⟩
        | peek => rw [hca, hcb] at hcl; cases hcl
        | grow => rw [hca, hcb] at hcl; cases hcl
        | wild => rw [hca, hcb] at hcl; cases hcl
      | wild =>
        cases hcb : cls k b.2 with
        | pure =>
          obtain ⟨e, hall⟩ := gval_pure hcf hcb gb
          subst e
          refine ⟨_, hall _, m0, ga, notwild (by rw [hcb]; simp), ?_⟩
          rw [addpure (by rw [hcb]; simp)]; exact c1
        | load => rw [hca, hcb] at hcl; cases hcl
        | peek => rw [hca, hcb] at hcl; cases hcl
        | grow => rw [hca, hcb] at hcl; cases hcl
        | wild => rw [hca, hcb] at hcl; cases hcl
    · simp only [soft, Bool.and_eq_true, beq_cl] at hc
      obtain ⟨⟨hca, hcb⟩, _⟩ := hc
      have hS := gval_load hca ga
      subst hS
      obtain ⟨t, ad, ho⟩ := cls_load hca
      refine ⟨_, gb, m2, gval_load_kept ho (fun hp => ?_) ga, c2' rfl, notwild (by rw [hca]; simp)⟩
      have hin : (t, ev fr.ρ ad) ∈ askW k deps b.1 b.2 (addW a.1 a.2 fr.ρ W) := by
        simp only [askW, if_pos hcb, List.mem_map]
        refine ⟨(a.1, t, ev fr.ρ ad), List.mem_filter.2 ⟨?_, ?_⟩, rfl⟩
        · simp only [addW, ho]; exact List.mem_cons_self ..
        · simp only [hnd, Bool.not_false, Bool.true_and]; exact hp
      exact List.all_eq_true.1 c2 _ hin
  obtain ⟨S2', k1, k2, k3, k4, k5⟩ := key
  refine ⟨addW a.1 a.2 fr.ρ (addW b.1 b.2 fr.ρ W), ?_, ?_⟩
  · intro w hw
    simp only []
    rw [hadd (i := b.1) (o := b.2) rb]
    have two : ∀ {i j : Nat} {o o' : COp} {ρ : Nat → SV} {W : Watch}, ∀ w ∈ addW i o ρ (addW j o' ρ W), w ∈ addW j o' ρ (addW i o ρ W) := by
      intro i j o o' ρ W w hw
      unfold addW at hw ⊢
      split at hw <;> split at hw <;> simp_all
      rcases hw with h | h | h <;> simp [h]
    exact two w hw
  · refine ⟨(addW b.1 b.2 fr.ρ W, fr.put b.2.dst y, S2'), ?_, ?_⟩
    · simp only [stepW, Option.bind_eq_some_iff]
      refine ⟨(fr.put b.2.dst y, S2'), (evD1_some hb).2 ⟨lb, m0, k2, y, k1, rfl⟩, ?_⟩
      rw [if_pos k4]
    · simp only [stepW, Option.bind_eq_some_iff]
      refine ⟨((fr.put b.2.dst y).put a.2.dst x, S2), (evD1_some ha).2 ⟨?_, k2, m2, x, ?_, rfl⟩, ?_⟩
      · rw [loadOK_congr (ra y)]; exact la
      · rw [gval_congr (ra y)]; exact k3
      · rw [if_pos k5, hadd (i := a.1) (o := a.2) (ra y), hz]
        simp only [Option.some.injEq, Prod.mk.injEq, true_and, and_true]
        exact put_comm fr y x hdd

/-- An operation that clashes with none of those ahead of it comes first. -/
theorem forward (hcf : Closed k cf) {deps : List (List Nat)} {m : Nat} {b : Nat × COp} (hb : isDefer b.2.op = false) {r : List (Nat × COp)} {z : Fr × St} : ∀ (A : List (Nat × COp)) (W : Watch) (fr : Fr) (S : St), (∀ a ∈ A, isDefer a.2.op = false ∧ free k deps a b) → evOpsD k cf deps m (A ++ b :: r) W fr S = some z → evOpsD k cf deps m (b :: (A ++ r)) W fr S = some z
  | [], W, fr, S, _, h => h
  | a :: A, W, fr, S, hA, h => by
    rw [List.cons_append, evOpsD_cons, Option.bind_eq_some_iff] at h
    obtain ⟨p, h1, h2⟩ := h
    have ih := forward hcf hb A p.1 p.2.1 p.2.2 (fun a ha => hA a (by simp [ha])) h2
    rw [evOpsD_cons, Option.bind_eq_some_iff] at ih
    obtain ⟨q, h4, h5⟩ := ih
    obtain ⟨ha, hc⟩ := hA a (by simp)
    obtain ⟨W', hW, h6⟩ := swap hcf ha hb hc (z := q) (Option.bind_eq_some_iff.2 ⟨p, h1, h4⟩)
    rw [Option.bind_eq_some_iff] at h6
    obtain ⟨p', h7, h8⟩ := h6
    rw [evOpsD_cons, h7, Option.bind_some, List.cons_append, evOpsD_cons, h8, Option.bind_some]
    exact evOpsD_sub _ _ _ _ _ hW h5

theorem evOps_of_D {deps : List (List Nat)} {m : Nat} : ∀ (l : List (Nat × COp)) (W : Watch) (fr : Fr) (S : St) (z : Fr × St), (∀ o ∈ l, isDefer o.2.op = false) → evOpsD k cf deps m l W fr S = some z → evOps k cf (l.map (·.2)) fr S = some z
  | [], W, fr, S, z, _, h => h
  | o :: r, W, fr, S, z, hd, h => by
    simp only [evOpsD, Option.bind_eq_some_iff] at h
    obtain ⟨p, h1, h2⟩ := h
    split at h2
    case isFalse => cases h2
    have ih := evOps_of_D r _ p.1 p.2 z (fun o ho => hd o (by simp [ho])) h2
    rw [evD1_some (hd o (by simp))] at h1
    obtain ⟨_, _, _, x, h3, h4⟩ := h1
    rw [List.map_cons, evOps_step (hd o (by simp)), h3]
    simp only [Option.bind_some]
    rw [← h4]; exact ih

def atN (ops : List COp) (i : Nat) : Option (Nat × COp) := ops[i]?.map fun o => (i, o)

/-- The orders. -/
theorem orders (hcf : Closed k cf) {deps : List (List Nat)} {m : Nat} {ops : List COp} (hd : ∀ o ∈ ops, isDefer o.op = false) {z : Fr × St} : ∀ (l nat : List Nat) (W : Watch) (fr : Fr) (S : St), nat.Pairwise (· < ·) → l.Nodup → (∀ i, i ∈ l ↔ i ∈ nat) → (∀ i ∈ nat, i < ops.length) →
    (∀ l₁ j l₂, l = l₁ ++ j :: l₂ → ∀ d, d < j → (∀ x y, ops[d]? = some x → ops[j]? = some y → ¬ free k deps (d, x) (j, y)) → d ∈ l₁ ∨ d ∉ nat) →
    evOpsD k cf deps m (nat.filterMap (atN ops)) W fr S = some z → evOpsD k cf deps m (l.filterMap (atN ops)) W fr S = some z
  | [], nat, W, fr, S, hs, hl, hm, hlt, hp, h => by
    have : nat = [] := by
      cases nat with
      | nil => rfl
      | cons a r => exact absurd ((hm a).2 (by simp)) (by simp)
    subst this; exact h
  | i :: l, nat, W, fr, S, hs, hl, hm, hlt, hp, h => by
    have hi : i ∈ nat := (hm i).1 (by simp)
    obtain ⟨A, B, rfl⟩ := List.append_of_mem hi
    have hil : i < ops.length := hlt i hi
    have hoi : atN ops i = some (i, ops[i]) := by simp [atN, List.getElem?_eq_getElem hil]
    rw [List.pairwise_append] at hs
    obtain ⟨sA, sB, sAB⟩ := hs
    rw [List.pairwise_cons] at sB
    have hnd : (A ++ B).Pairwise (· < ·) := List.pairwise_append.2 ⟨sA, sB.2, fun a ha b hb => sAB a ha b (by simp [hb])⟩
    have hiA : i ∉ A := fun h => Nat.lt_irrefl i (sAB i h i (by simp))
    have hiB : i ∉ B := fun h => Nat.lt_irrefl i (sB.1 i h)
    rw [List.filterMap_append, List.filterMap_cons, hoi] at h
    simp only at h
    have h' := forward hcf (b := (i, ops[i])) (hd ops[i] (List.getElem_mem hil)) (A.filterMap (atN ops)) W fr S (fun a ha => by
      obtain ⟨j, hj, hoj⟩ := List.mem_filterMap.1 ha
      simp only [atN, Option.map_eq_some_iff] at hoj
      obtain ⟨o, hoj, rfl⟩ := hoj
      refine ⟨hd o (List.mem_of_getElem? hoj), ?_⟩
      have hji : j < i := sAB j hj i (by simp)
      refine Classical.byContradiction fun hc => ?_
      rcases hp [] i l rfl j hji (fun x y hx hy => by rw [hoj] at hx; rw [List.getElem?_eq_getElem hil] at hy; injection hx with hx; injection hy with hy; subst hx; subst hy; exact hc) with h | h
      · simp at h
      · exact (h (by simp [hj])).elim) h
    rw [evOpsD_cons, Option.bind_eq_some_iff] at h'
    obtain ⟨p, h1, h2⟩ := h'
    rw [← List.filterMap_append] at h2
    have hl' := List.nodup_cons.1 hl
    have h3 := orders hcf hd l (A ++ B) p.1 p.2.1 p.2.2 hnd hl'.2 (fun j => by
      constructor
      · intro hj
        have hji : j ≠ i := fun e => hl'.1 (e ▸ hj)
        have := (hm j).1 (by simp [hj])
        simp only [List.mem_append, List.mem_cons] at this ⊢
        rcases this with h | h | h
        · exact .inl h
        · exact (hji h).elim
        · exact .inr h
      · intro hj
        have hji : j ≠ i := by
          rintro rfl
          rcases List.mem_append.1 hj with h | h
          · exact hiA h
          · exact hiB h
        have : j ∈ i :: l := (hm j).2 (by simp only [List.mem_append, List.mem_cons] at hj ⊢; rcases hj with h | h; exact .inl h; exact .inr (.inr h))
        rcases List.mem_cons.1 this with h | h
        · exact (hji h).elim
        · exact h) (fun j hj => hlt j (by
      simp only [List.mem_append, List.mem_cons] at hj ⊢
      rcases hj with h | h
      · exact .inl h
      · exact .inr (.inr h))) (fun l₁ j l₂ e d hdj hcon => by
      rcases hp (i :: l₁) j l₂ (by rw [e]; rfl) d hdj hcon with h | h
      · rcases List.mem_cons.1 h with rfl | h
        · exact .inr (fun h => by rcases List.mem_append.1 h with h | h; exact hiA h; exact hiB h)
        · exact .inl h
      · refine .inr (fun h' => h ?_)
        simp only [List.mem_append, List.mem_cons] at h' ⊢
        rcases h' with h | h
        · exact .inl h
        · exact .inr (.inr h)) h2
    rw [List.filterMap_cons, hoi]
    simp only []
    rw [evOpsD_cons, h1, Option.bind_some]
    exact h3

theorem map_atN (ops : List COp) : ∀ l : List Nat, ((l.filterMap (atN ops)).map (·.2)) = pickOps ops l
  | [] => rfl
  | i :: l => by
    simp only [pickOps, List.filterMap_cons, atN]
    have ih := map_atN ops l
    simp only [pickOps, atN] at ih
    cases ops[i]? with
    | none => exact ih
    | some o => simp only [Option.map_some, List.map_cons, ih]

theorem zip_take {α β : Type} : ∀ (l : List α) (a b : List β), a.length = l.length → l.zip (a ++ b) = l.zip a
  | [], _, _, _ => by simp
  | _ :: _, [], _, h => by simp at h
  | x :: l, y :: a, b, h => by simp only [List.cons_append, List.zip_cons_cons]; rw [zip_take l a b (by simpa using h)]

theorem getD_app {α : Type} {a b : List α} {i : Nat} {d : α} (h : i < a.length) : (a ++ b).getD i d = a.getD i d := by
  simp [List.getD, List.getElem?_append_left h]

theorem number_eq (ops : List COp) : (List.range ops.length).filterMap (atN ops) = number ops := by
  apply List.ext_getElem?
  intro i
  unfold number
  have : ∀ (n : Nat), n ≤ ops.length → (List.range n).filterMap (atN ops) = (List.range n).zip ops := by
    intro n
    induction n with
    | zero => intro _; rfl
    | succ n ih =>
      intro hn
      rw [List.range_succ, List.filterMap_append, ih (by omega)]
      have hl : n < ops.length := by omega
      have h1 : [n].filterMap (atN ops) = [(n, ops[n])] := by simp [atN, List.getElem?_eq_getElem hl]
      rw [h1]
      have h2 : ops = ops.take n ++ ops[n] :: ops.drop (n + 1) := by
        rw [List.getElem_cons_drop, List.take_append_drop]
      conv => rhs; rw [h2]
      rw [List.zip_append (by simp; omega)]
      simp only [List.zip_cons_cons, List.zip_nil_left]
      congr 1
      conv => lhs; rw [h2]
      exact zip_take _ _ _ (by simp; omega)
  rw [this _ (Nat.le_refl _)]

theorem closeD_spec (deps : List (List Nat)) (hlow : ∀ i, ∀ d ∈ deps.getD i [], d < i) {l : List Nat} (hl : LinExt deps l) : LinExt (closeD deps) l := by
  have key : ∀ (suf pre acc : List (List Nat)), pre ++ suf = deps → acc.length = pre.length →
      (∀ (l₁ : List Nat) (i : Nat) (l₂ : List Nat), l = l₁ ++ i :: l₂ → ∀ d ∈ acc.getD i [], d ∈ l₁) →
      (suf.foldl (fun acc ds => acc ++ [closeRow acc ds]) acc).length = deps.length ∧ ∀ (l₁ : List Nat) (i : Nat) (l₂ : List Nat), l = l₁ ++ i :: l₂ → ∀ d ∈ (suf.foldl (fun acc ds => acc ++ [closeRow acc ds]) acc).getD i [], d ∈ l₁ := by
    intro suf
    induction suf with
    | nil => intro pre acc hp hlen h; simp at hp; subst hp; exact ⟨hlen, h⟩
    | cons ds suf ih =>
      intro pre acc hp hlen h
      simp only [List.foldl_cons]
      refine ih (pre ++ [ds]) _ (by simp [hp]) (by simp [hlen]) ?_
      intro l₁ i l₂ e d hd
      by_cases hi : i < acc.length
      · rw [getD_app hi] at hd
        exact h l₁ i l₂ e d hd
      · by_cases hi2 : i = acc.length
        · subst hi2
          have hrow : deps.getD acc.length [] = ds := by
            rw [← hp, hlen]; simp [List.getD]
          have hd' : d ∈ closeRow acc ds := by
            simpa [List.getD] using hd
          unfold closeRow at hd'
          rcases List.mem_append.1 hd' with h1 | h1
          · exact hl.2.2 l₁ _ l₂ e d (by rw [hrow]; exact h1)
          · obtain ⟨_, h1⟩ := List.mem_filter.1 h1
            obtain ⟨c, hc, hdc⟩ := List.any_eq_true.1 h1
            have hdc : d ∈ acc.getD c [] := by simpa using hdc
            have hc1 := hl.2.2 l₁ _ l₂ e c (by rw [hrow]; exact hc)
            obtain ⟨a, b, rfl⟩ := List.append_of_mem hc1
            have := h a c (b ++ acc.length :: l₂) (by rw [e]; simp) d hdc
            simp [this]
        · have : (acc ++ [closeRow acc ds]).getD i [] = [] := by
            simp [List.getD, List.getElem?_eq_none (show (acc ++ [closeRow acc ds]).length ≤ i by simp; omega)]
          rw [this] at hd; cases hd
  obtain ⟨h1, h2⟩ := key deps [] [] rfl rfl (fun l₁ i l₂ e d hd => by simp [List.getD] at hd)
  refine ⟨hl.1, fun i => ?_, h2⟩
  rw [hl.2.1 i]
  have : (closeD deps).length = deps.length := h1
  rw [this]

theorem closeD_length (deps : List (List Nat)) : (closeD deps).length = deps.length := by
  have : ∀ (suf acc : List (List Nat)), (suf.foldl (fun acc ds => acc ++ [closeRow acc ds]) acc).length = acc.length + suf.length := by
    intro suf
    induction suf with
    | nil => intro acc; rfl
    | cons ds suf ih => intro acc; rw [List.foldl_cons, ih]; simp; omega
  unfold closeD
  rw [this]; simp

theorem closeD_sub (deps : List (List Nat)) (i d : Nat) (hd : d ∈ deps.getD i []) : d ∈ (closeD deps).getD i [] := by
  have key : ∀ (suf pre acc : List (List Nat)), pre ++ suf = deps → acc.length = pre.length → (∀ i, i < pre.length → ∀ d ∈ deps.getD i [], d ∈ acc.getD i []) →
      ∀ i, i < deps.length → ∀ d ∈ deps.getD i [], d ∈ (suf.foldl (fun acc ds => acc ++ [closeRow acc ds]) acc).getD i [] := by
    intro suf
    induction suf with
    | nil => intro pre acc hp hlen h i hi; simp at hp; subst hp; exact h i hi
    | cons ds suf ih =>
      intro pre acc hp hlen h
      simp only [List.foldl_cons]
      refine ih (pre ++ [ds]) _ (by simp [hp]) (by simp [hlen]) ?_
      intro i hi d hd
      by_cases hi1 : i < pre.length
      · rw [getD_app (by omega)]
        exact h i hi1 d hd
      · have : i = pre.length := by simp at hi; omega
        subst this
        have hrow : deps.getD pre.length [] = ds := by
          rw [← hp]; simp [List.getD]
        rw [hrow] at hd
        have : (acc ++ [closeRow acc ds]).getD pre.length [] = closeRow acc ds := by
          rw [← hlen]; simp [List.getD]
        rw [this]
        exact List.mem_append_left _ hd
  by_cases hi : i < deps.length
  · exact key deps [] [] rfl rfl (fun i hi => by simp at hi) i hi d hd
  · have : deps.getD i [] = [] := by simp [List.getD, List.getElem?_eq_none (show deps.length ≤ i by omega)]
    rw [this] at hd; cases hd

theorem draw_sound (hcf : Closed k cf) {ops : List COp} {deps : List (List Nat)} {fr : Fr} {S : St} {z : Fr × St} (h : evDraw k cf ops deps fr S = some z) :
    ops.length = deps.length ∧ (∀ i, ∀ d ∈ deps.getD i [], d < i) ∧ ∀ l, LinExt deps l → evOps k cf (pickOps ops l) fr S = some z := by
  unfold evDraw at h
  split at h
  · rename_i hok
    simp only [drawOK, Bool.and_eq_true, beq_iff_eq, List.all_eq_true, Bool.not_eq_true', List.mem_range, decide_eq_true_eq, Bool.or_eq_true] at hok
    obtain ⟨⟨hlen, hdef⟩, hall⟩ := hok
    rw [closeD_length] at hlen
    have hlowc : ∀ i, ∀ d ∈ (closeD deps).getD i [], d < i := by
      intro i d hd
      by_cases hi : i < ops.length
      · exact (hall i hi).1 d hd
      · have : (closeD deps).getD i [] = [] := by simp [List.getD, List.getElem?_eq_none (show (closeD deps).length ≤ i by rw [closeD_length]; omega)]
        rw [this] at hd; cases hd
    have hlow : ∀ i, ∀ d ∈ deps.getD i [], d < i := fun i d hd => hlowc i d (closeD_sub deps i d hd)
    refine ⟨hlen, hlow, fun l hl => ?_⟩
    obtain ⟨h1, h2, h3⟩ := closeD_spec deps hlow hl
    rw [closeD_length] at h2
    have hd' : ∀ o ∈ ops, isDefer o.op = false := hdef
    have := orders (deps := closeD deps) (m := S.next) hcf hd' l (List.range ops.length) [] fr S List.pairwise_lt_range h1 (fun i => by rw [h2, List.mem_range, hlen]) (fun i hi => List.mem_range.1 hi) (fun l₁ j l₂ e d hdj hcon => ?_) (by rw [number_eq]; exact h)
    · have := evOps_of_D _ _ _ _ _ (fun o ho => by
        obtain ⟨i, _, hi⟩ := List.mem_filterMap.1 ho
        simp only [atN, Option.map_eq_some_iff] at hi
        obtain ⟨o', ho', rfl⟩ := hi
        exact hd' o' (List.mem_of_getElem? ho')) this
      rwa [map_atN] at this
    · have hj : j < ops.length := by
        have := (h2 j).1 (by rw [e]; simp)
        omega
      have hd0 : d < ops.length := by omega
      have := (hall j hj).2 d hdj
      rcases this with hc | hc
      · exact .inl (h3 l₁ j l₂ e d (by simpa using hc))
      · by_cases hcd : ((closeD deps).getD j []).contains d = true
        · exact .inl (h3 l₁ j l₂ e d (by simpa using hcd))
        · rw [List.getElem?_eq_getElem hd0, List.getElem?_eq_getElem hj] at hc
          simp only [Bool.or_eq_true, Bool.not_eq_true'] at hc
          exfalso
          refine hcon _ _ (List.getElem?_eq_getElem hd0) (List.getElem?_eq_getElem hj) ?_
          rcases hc with hc | hc
          · exact .inl hc
          · exact .inr ⟨hc, by simpa using hcd⟩
  · cases h
end
end Go.Sv
end
