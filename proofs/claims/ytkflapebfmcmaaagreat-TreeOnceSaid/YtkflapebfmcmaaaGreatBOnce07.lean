/- Parts of the proofs of this seat's laws. -/
import Derived.Test.YtkflapebfmcmaaaGreatBOnce00
section
set_option linter.all false
/- Operations that may change places. -/
namespace Go.Sv
open Go

section
variable {k : K}

theorem ev_congr {ρ ρ' : Nat → SV} {x : Operand} (h : ∀ t ∈ rdO x, ρ t = ρ' t) : ev ρ x = ev ρ' x := by
  cases x with
  | tmp t => exact h t (by simp [rdO])
  | _ => rfl

theorem map_ev_congr {ρ ρ' : Nat → SV} {l : List Operand} (h : ∀ t ∈ l.flatMap rdO, ρ t = ρ' t) : l.map (ev ρ) = l.map (ev ρ') :=
  List.map_congr_left fun x hx => ev_congr fun t ht => h t (List.mem_flatMap.2 ⟨x, hx, ht⟩)

theorem parts_ev_congr {ρ ρ' : Nat → SV} {l : List (Nat × Operand)} (h : ∀ t ∈ l.flatMap (fun p => rdO p.2), ρ t = ρ' t) : (l.map fun p => (p.1, ev ρ p.2)) = l.map fun p => (p.1, ev ρ' p.2) :=
  List.map_congr_left fun x hx => by rw [ev_congr fun t ht => h t (List.mem_flatMap.2 ⟨x, hx, ht⟩)]

theorem opt_ev_congr {ρ ρ' : Nat → SV} {l : Option Operand} (h : ∀ t ∈ l.toList.flatMap rdO, ρ t = ρ' t) : l.map (ev ρ) = l.map (ev ρ') := by
  cases l with
  | none => rfl
  | some x => simp only [Option.map_some]; rw [ev_congr fun t ht => h t (by simpa using ht)]

theorem evOp_congr {o : COp} {ρ ρ' : Nat → SV} {S : St} (h : ∀ t ∈ opReads o.op, ρ t = ρ' t) : evOp k o ρ S = evOp k o ρ' S := by
  obtain ⟨d, op, ty, g⟩ := o
  simp only at h
  have two : ∀ {a b : List Nat}, (∀ t ∈ a ++ b, ρ t = ρ' t) → (∀ t ∈ a, ρ t = ρ' t) ∧ ∀ t ∈ b, ρ t = ρ' t := fun h => ⟨fun t ht => h t (by simp [ht]), fun t ht => h t (by simp [ht])⟩
  cases op with
  | call c =>
    obtain ⟨cal, args, ats⟩ := c
    simp only [opReads] at h
    cases cal with
    | builtin b =>
      simp only [evOp]
      rw [map_ev_congr (two h).2]
    | _ => rfl
  | pick c a b => simp only [opReads] at h; simp only [evOp]; rw [ev_congr (two h).1, ev_congr (two (two h).2).1, ev_congr (two (two h).2).2]
  | build t parts => simp only [opReads] at h; simp only [evOp]; rw [parts_ev_congr h]
  | buildSlice t n parts => simp only [opReads] at h; simp only [evOp]; rw [parts_ev_congr h]
  | store t a x => simp only [opReads] at h; simp only [evOp]; rw [ev_congr (two h).1, ev_congr (two h).2]
  | binOp op t x y a => simp only [opReads] at h; simp only [evOp]; rw [ev_congr (two h).1, ev_congr (two h).2]
  | makeFunc f fst cap =>
    simp only [opReads] at h
    cases f with
    | func f => simp only [evOp]; rw [map_ev_congr (two h).1, map_ev_congr (two h).2]
    | _ => rfl
  | makeSlice t l c => simp only [opReads] at h; simp only [evOp]; rw [ev_congr (two h).1, ev_congr (two h).2]
  | slice t x lo hi mx =>
    simp only [opReads] at h
    cases mx with
    | none => simp only [evOp]; rw [ev_congr (two h).1, opt_ev_congr (two (two h).2).1, opt_ev_congr (two (two h).2).2]
    | some _ => rfl
  | indexAddr t x i => simp only [opReads] at h; simp only [evOp]; rw [ev_congr (two h).1, ev_congr (two h).2]
  | lookup t m x ok => simp only [opReads] at h; simp only [evOp]; rw [ev_congr (two h).1, ev_congr (two h).2]
  | mapUpdate t m x y => simp only [opReads] at h; simp only [evOp]; rw [ev_congr (two h).1, ev_congr (two (two h).2).1, ev_congr (two (two h).2).2]
  | insert t m x y => simp only [opReads] at h; simp only [evOp]; rw [ev_congr (two h).1, ev_congr (two (two h).2).1, ev_congr (two (two h).2).2]
  | unOp op t x =>
    simp only [opReads] at h
    cases op with
    | not => simp only [evOp]; rw [ev_congr h]
    | _ => rfl
  | move x => simp only [opReads] at h; simp only [evOp]; rw [ev_congr h]
  | assign x => simp only [opReads] at h; simp only [evOp]; rw [ev_congr h]
  | box t x => simp only [opReads] at h; simp only [evOp]; rw [ev_congr h]
  | load t x => simp only [opReads] at h; simp only [evOp]; rw [ev_congr h]
  | nilCheck x => simp only [opReads] at h; simp only [evOp]; rw [ev_congr h]
  | convert s d x => simp only [opReads] at h; simp only [evOp]; rw [ev_congr h]
  | fieldAddr t x i => simp only [opReads] at h; simp only [evOp]; rw [ev_congr h]
  | extract x i =>
    simp only [opReads] at h
    simp only [evOp]; rw [ev_congr h]
  | makeMap t r => cases r <;> rfl
  | _ => rfl

theorem evOpF_congr {o : COp} {ρ ρ' : Nat → SV} {S : St} (h : ∀ t ∈ opReads o.op, ρ t = ρ' t) : evOpF k o ρ S = evOpF k o ρ' S := by
  unfold evOpF
  rw [evOp_congr (ρ := fun t => shut (ρ t)) (ρ' := fun t => shut (ρ' t)) (fun t ht => by rw [h t ht]), evOp_congr h]

def gop (k : K) (cf : CallF) (o : COp) (ρ : Nat → SV) (S : St) : Option (SV × St) :=
  match o.op with
  | .call { callee := .value f, args, .. } => cf (ev ρ f) (args.toList.map (ev ρ)) S
  | _ => evOpF k o ρ S

/-- An operation's value, its guard asked. -/
def gval (k : K) (cf : CallF) (o : COp) (ρ : Nat → SV) (S : St) : Option (SV × St) :=
  match o.g with
  | none => gop k cf o ρ S
  | some (t, w) =>
    match ρ t with
    | .top => none
    | .v (.bool b) => if b = w then gop k cf o ρ S else some (.v undef, S)
    | _ => some (.v undef, S)

theorem evOps_step {cf : CallF} {o : COp} (hd : isDefer o.op = false) (r : List COp) (fr : Fr) (S : St) : evOps k cf (o :: r) fr S = (gval k cf o fr.ρ S).bind fun p => evOps k cf r (fr.put o.dst p.1) p.2 := by
  obtain ⟨d, op, ty, g⟩ := o
  simp only [evOps, gval, gop]
  cases g with
  | none =>
    cases op with
    | call c => obtain ⟨cal, args, ats⟩ := c; cases cal <;> rfl
    | defer c => simp [isDefer] at hd
    | _ => rfl
  | some p =>
    obtain ⟨t, w⟩ := p
    simp only []
    cases hx : fr.ρ t with
    | v u =>
      cases u with
      | bool b =>
        simp only []
        by_cases hbw : b = w
        · simp only [hbw, if_true]
          cases op with
          | call c => obtain ⟨cal, args, ats⟩ := c; cases cal <;> rfl
          | defer c => simp [isDefer] at hd
          | _ => rfl
        · simp only [hbw, if_false, Option.bind_some]
      | _ => rfl
    | _ => rfl

theorem evOps_one {cf : CallF} {o : COp} (hd : isDefer o.op = false) (fr : Fr) (S : St) : evOps k cf [o] fr S = (gval k cf o fr.ρ S).map fun r => (fr.put o.dst r.1, r.2) := by
  rw [evOps_step hd]
  cases gval k cf o fr.ρ S <;> rfl

theorem gop_congr {cf : CallF} {o : COp} {ρ ρ' : Nat → SV} {S : St} (hop : ∀ t ∈ opReads o.op, ρ t = ρ' t) : gop k cf o ρ S = gop k cf o ρ' S := by
  obtain ⟨d, op, ty, g⟩ := o
  simp only at hop
  unfold gop
  cases op with
  | call c =>
    obtain ⟨cal, args, ats⟩ := c
    cases cal with
    | value f =>
      simp only [opReads, List.mem_append] at hop
      simp only []
      rw [ev_congr fun t ht => hop t (.inl ht), map_ev_congr fun t ht => hop t (.inr ht)]
    | _ => exact evOpF_congr hop
  | _ => exact evOpF_congr hop

theorem gval_congr {cf : CallF} {o : COp} {ρ ρ' : Nat → SV} {S : St} (h : ∀ t ∈ reads o, ρ t = ρ' t) : gval k cf o ρ S = gval k cf o ρ' S := by
  have hop : ∀ t ∈ opReads o.op, ρ t = ρ' t := fun t ht => h t (by simp [reads, ht])
  unfold gval
  rw [gop_congr hop]
  cases hg : o.g with
  | none => rfl
  | some p =>
    obtain ⟨t, w⟩ := p
    have ht : ρ t = ρ' t := h t (by simp [reads, hg])
    simp only [ht]

/-- Calls of closed functions look at no state. -/
structure Closed (k : K) (cf : CallF) : Prop where
  pure : ∀ f fst cap args S x S', k.prim f = none → k.mode f = 3 → cf (.func f fst cap) args S = some (x, S') → S' = S ∧ ∀ S2, cf (.func f fst cap) args S2 = some (x, S2)
  peek : ∀ f fst cap args S x S', k.prim f = none → k.mode f = 0 → cf (.func f fst cap) args S = some (x, S') → S' = S
  grow : ∀ f fst cap args S x S', k.pg f = true → cf (.func f fst cap) args S = some (x, S') → S.next ≤ S'.next ∧ ∀ b, b < S.next → objCells (S'.get b) = objCells (S.get b)

theorem evOpF_frozen {o : COp} {ρ : Nat → SV} {S S' : St} {x : SV} (hf : frozen k o = true) (h : evOpF k o ρ S = some (x, S')) : S' = S ∧ ∀ S2, evOpF k o ρ S2 = some (x, S2) := by
  unfold evOpF at h ⊢
  simp only [hf, if_true, Option.map_eq_some_iff, Prod.mk.injEq] at h ⊢
  obtain ⟨r, h1, rfl, rfl⟩ := h
  refine ⟨rfl, fun S2 => ⟨r, h1, ?_⟩⟩
  simp

theorem builtin_pure {b : Builtin} (hb : b = .len ∨ b = .max) {ts : List TypeId} {args : List SV} {S S' : St} {x : SV} (h : builtinE k b ts args S = some (x, S')) : S' = S ∧ ∀ S2, builtinE k b ts args S2 = some (x, S2) := by
  have key : ∀ {y : Option SV}, (y.map fun r => (r, S)) = some (x, S') → S' = S ∧ ∀ S2 : St, (y.map fun r => (r, S2)) = some (x, S2) := by
    intro y h
    cases y with
    | none => simp at h
    | some y => simp at h; obtain ⟨rfl, rfl⟩ := h; exact ⟨rfl, fun _ => rfl⟩
  rcases hb with rfl | rfl
  · rcases ts with _ | ⟨t, _ | ⟨t2, ts⟩⟩ <;> rcases args with _ | ⟨y, _ | ⟨z, args⟩⟩ <;> first | exact key h | cases h
  · rcases args with _ | ⟨y, _ | ⟨z, _ | ⟨z2, args⟩⟩⟩ <;> first | exact key h | (simp [builtinE] at h; done) | (rcases ts with _ | ⟨t, _ | ⟨t2, ts⟩⟩ <;> simp [builtinE] at h)

theorem pure_go {cf : CallF} (hcf : Closed k cf) {o : COp} {ρ : Nat → SV} {S S' : St} {x : SV} (hc : cls k o = .pure) (h : gop k cf o ρ S = some (x, S')) : S' = S ∧ ∀ S2, gop k cf o ρ S2 = some (x, S2) := by
  obtain ⟨d, op, ty, g⟩ := o
  unfold gop at h ⊢
  have key : ∀ {y : Option SV}, (y.map fun r => (r, S)) = some (x, S') → S' = S ∧ ∀ S2 : St, (y.map fun r => (r, S2)) = some (x, S2) := by
    intro y h
    cases y with
    | none => simp at h
    | some y => simp at h; obtain ⟨rfl, rfl⟩ := h; exact ⟨rfl, fun _ => rfl⟩
  cases op with
  | call c =>
    obtain ⟨cal, args, ats⟩ := c
    cases cal with
    | value f =>
      cases f with
      | func f =>
        simp only [cls] at hc
        split at hc
        · rename_i hf
          exact hcf.pure f [] [] _ S x S' hf.1 hf.2 h
        · split at hc
          · cases hc
          · split at hc <;> cases hc
      | _ => simp [cls] at hc
    | builtin b =>
      cases b with
      | len =>
        have hnf : frozen k ⟨d, .call ⟨.builtin .len, args, ats⟩, ty, g⟩ = false := rfl
        simp only [evOpF, hnf, Bool.false_eq_true, if_false, evOp] at h ⊢
        exact builtin_pure (by simp) h
      | max =>
        have hnf : frozen k ⟨d, .call ⟨.builtin .max, args, ats⟩, ty, g⟩ = false := rfl
        simp only [evOpF, hnf, Bool.false_eq_true, if_false, evOp] at h ⊢
        exact builtin_pure (by simp) h
      | append =>
        simp only [cls] at hc
        split at hc
        · rename_i hf
          exact evOpF_frozen hf h
        · split at hc
          · split at hc
            · split at hc <;> cases hc
            · cases hc
          · cases hc
      | _ => simp [cls] at hc
    | _ => simp [cls] at hc
  | buildSlice t n parts =>
    simp only [cls] at hc
    split at hc
    · rename_i hf
      by_cases hfz : frozen k ⟨d, .buildSlice t n parts, ty, g⟩ = true
      · exact evOpF_frozen hfz h
      · have hn : n = 0 := by rcases hf with hf | hf; exact absurd hf hfz; exact hf
        subst hn
        have hev : ∀ S, evOpF k ⟨d, .buildSlice t 0 parts, ty, g⟩ ρ S = evOp k ⟨d, .buildSlice t 0 parts, ty, g⟩ ρ S := fun S => by unfold evOpF; rw [if_neg hfz]
        simp only [hev] at h ⊢
        simp only [evOp, Option.bind_eq_some_iff] at h ⊢
        obtain ⟨e, he, z, hz, sz, hsz, pl, hpl, h⟩ := h
        split at h
        · cases h
        · rename_i hc
          simp only [Option.map_eq_some_iff, Prod.mk.injEq, if_true] at h
          obtain ⟨cs, h1, rfl, rfl⟩ := h
          refine ⟨rfl, fun S2 => ⟨e, he, z, hz, sz, hsz, pl, hpl, ?_⟩⟩
          rw [if_neg hc, h1]; rfl
    · cases hc
  | slice t y lo hi mx =>
    cases mx with
    | some _ => simp [cls] at hc
    | none =>
      have hnf : frozen k ⟨d, .slice t y lo hi none, ty, g⟩ = false := rfl
      simp only [evOpF, hnf, Bool.false_eq_true, if_false, evOp] at h ⊢
      exact key h
  | move y =>
    simp only [evOpF, frozen, Bool.false_eq_true, if_false, evOp] at h ⊢
    simp only [Option.some.injEq, Prod.mk.injEq] at h; obtain ⟨rfl, rfl⟩ := h; exact ⟨rfl, fun _ => rfl⟩
  | assign y =>
    simp only [evOpF, frozen, Bool.false_eq_true, if_false, evOp] at h ⊢
    simp only [Option.some.injEq, Prod.mk.injEq] at h; obtain ⟨rfl, rfl⟩ := h; exact ⟨rfl, fun _ => rfl⟩
  | pick c a b =>
    simp only [evOpF, frozen, Bool.false_eq_true, if_false, evOp] at h ⊢
    split at h
    · simp only [Option.some.injEq, Prod.mk.injEq] at h; obtain ⟨rfl, rfl⟩ := h; exact ⟨rfl, fun _ => rfl⟩
    · cases h
  | build t parts =>
    simp only [evOpF, frozen, Bool.false_eq_true, if_false, evOp, Option.bind_eq_some_iff] at h ⊢
    obtain ⟨ag, h1, h⟩ := h
    simp only [h1]
    split at h
    · rename_i hag
      simp only [Option.bind_eq_some_iff, Option.map_eq_some_iff] at h
      obtain ⟨z, hz, pl, hpl, cs, hcs, h⟩ := h
      simp only [Prod.mk.injEq] at h
      obtain ⟨rfl, rfl⟩ := h
      refine ⟨rfl, fun S2 => ?_⟩
      simp only [Option.bind_some, hag, if_true, hz, hpl, hcs, Option.map_some]
      exact ⟨_, rfl, rfl⟩
    · cases h
  | nilCheck y =>
    simp only [evOpF, frozen, Bool.false_eq_true, if_false, evOp] at h ⊢
    split at h <;> first | (simp only [Option.some.injEq, Prod.mk.injEq] at h; obtain ⟨rfl, rfl⟩ := h; exact ⟨rfl, fun _ => rfl⟩) | cases h
  | binOp op t y z a =>
    simp only [evOpF, frozen, Bool.false_eq_true, if_false, evOp] at h ⊢
    exact key h
  | box t y =>
    simp only [cls] at hc
    split at hc
    · rename_i hs
      simp only [evOpF, frozen, Bool.false_eq_true, if_false, evOp, hs, if_true] at h ⊢
      cases hcs : cellsOf (ev ρ y) with
      | none => simp [hcs] at h
      | some cs =>
        simp only [hcs, Option.map_some, Option.some.injEq, Prod.mk.injEq] at h
        obtain ⟨rfl, rfl⟩ := h
        exact ⟨rfl, fun _ => rfl⟩
    · cases hc
  | unOp op t y =>
    cases op with
    | not =>
      simp only [evOpF, frozen, Bool.false_eq_true, if_false, evOp] at h ⊢
      split at h
      · simp only [Option.some.injEq, Prod.mk.injEq] at h; obtain ⟨rfl, rfl⟩ := h; exact ⟨rfl, fun _ => rfl⟩
      · cases h
    | _ => simp [evOpF, frozen, evOp] at h
  | convert s t y =>
    simp only [evOpF, frozen, Bool.false_eq_true, if_false, evOp] at h ⊢
    split at h
    · simp only [Option.some.injEq, Prod.mk.injEq] at h; obtain ⟨rfl, rfl⟩ := h; exact ⟨rfl, fun _ => rfl⟩
    · cases h
  | makeFunc f fst cap =>
    cases f with
    | func f =>
      simp only [evOpF, frozen, Bool.false_eq_true, if_false, evOp] at h ⊢
      simp only [Option.some.injEq, Prod.mk.injEq] at h; obtain ⟨rfl, rfl⟩ := h; exact ⟨rfl, fun _ => rfl⟩
    | _ => simp [evOpF, frozen, evOp] at h
  | fieldAddr t y i =>
    simp only [evOpF, frozen, Bool.false_eq_true, if_false, evOp] at h ⊢
    exact key h
  | indexAddr t y i =>
    simp only [evOpF, frozen, Bool.false_eq_true, if_false, evOp] at h ⊢
    exact key h
  | extract y i =>
    simp only [evOpF, frozen, Bool.false_eq_true, if_false, evOp] at h ⊢
    split at h
    · exact key h
    · cases h
  | _ => simp [cls] at hc
end
end Go.Sv
end
section
set_option linter.all false
/- Any order comes to the same. -/
namespace Go.Sv
open Go

section
variable {k : K} {cf : CallF}

theorem gval_pure (hcf : Closed k cf) {o : COp} {ρ : Nat → SV} {S S' : St} {x : SV} (hc : cls k o = .pure) (h : gval k cf o ρ S = some (x, S')) : S' = S ∧ ∀ S2, gval k cf o ρ S2 = some (x, S2) := by
  unfold gval at h ⊢
  cases hg : o.g with
  | none => simp only [hg] at h ⊢; exact pure_go hcf hc h
  | some p =>
    obtain ⟨t, w⟩ := p
    simp only [hg] at h ⊢
    have sk : some (SV.v undef, S) = some (x, S') → S' = S ∧ ∀ S2 : St, some (SV.v undef, S2) = some (x, S2) := by
      intro h
      simp only [Option.some.injEq, Prod.mk.injEq] at h; obtain ⟨rfl, rfl⟩ := h; exact ⟨rfl, fun _ => rfl⟩
    split at h
    · cases h
    · split at h
      · rename_i hb; simp only [hb, if_true]; exact pure_go hcf hc h
      · rename_i hb; simp only [hb, if_false]; exact sk h
    · exact sk h

theorem cls_load {o : COp} (hc : cls k o = .load) : ∃ t a, o.op = .load t a := by
  obtain ⟨d, op, ty, g⟩ := o
  cases op with
  | load t a => exact ⟨t, a, rfl⟩
  | box t y => simp only [cls] at hc; split at hc <;> cases hc
  | buildSlice t n parts => simp only [cls] at hc; split at hc <;> cases hc
  | slice t y lo hi mx => cases mx <;> simp [cls] at hc
  | call c =>
    obtain ⟨cal, args, ats⟩ := c
    cases cal with
    | value f =>
      cases f with
      | func f =>
        simp only [cls] at hc
        split at hc
        · cases hc
        · split at hc
          · cases hc
          · split at hc <;> cases hc
      | _ => simp [cls] at hc
    | builtin b =>
      cases b with
      | append =>
        simp only [cls] at hc
        split at hc
        · cases hc
        · split at hc
          · split at hc
            · split at hc <;> cases hc
            · cases hc
          · cases hc
      | _ => simp [cls] at hc
    | _ => simp [cls] at hc
  | _ => simp [cls] at hc

theorem evOpF_not {o : COp} {ρ : Nat → SV} {S : St} (hf : ¬ frozen k o = true) : evOpF k o ρ S = evOp k o ρ S := by
  unfold evOpF
  rw [if_neg hf]

theorem builtin_append {ts : List TypeId} {args : List SV} {S : St} {r : SV × St} (h : builtinE k .append ts args S = some r) : ∃ t t2 s y, ts = [t, t2] ∧ appendE k t s y S = some r := by
  rcases ts with _ | ⟨t, _ | ⟨t2, _ | ⟨t3, ts⟩⟩⟩ <;> rcases args with _ | ⟨y, _ | ⟨z, _ | ⟨z2, args⟩⟩⟩ <;> first | (simp [builtinE] at h; done) | skip
  simp only [builtinE] at h
  split at h
  · exact ⟨t, t2, y, z, rfl, h⟩
  · cases h

theorem gop_load {o : COp} {t : TypeId} {a : Operand} (ho : o.op = .load t a) (ρ : Nat → SV) (S : St) : gop k cf o ρ S = (loadE k t (ev ρ a) S).map fun x => (x, S) := by
  obtain ⟨d, op, ty, g⟩ := o
  simp only at ho; subst ho
  simp [gop, evOpF, frozen, evOp]

theorem loadE_same {t : TypeId} {a : SV} {S1 S2 : St} (h : ∀ b off, a = .ptr b off → objCells (S1.get b) = objCells (S2.get b)) : loadE k t a S1 = loadE k t a S2 := by
  unfold loadE
  cases a with
  | ptr b off => simp only [h b off rfl]
  | _ => rfl

theorem gval_load {o : COp} {ρ : Nat → SV} {S S' : St} {x : SV} (hc : cls k o = .load) (h : gval k cf o ρ S = some (x, S')) : S' = S := by
  obtain ⟨t, a, ho⟩ := cls_load hc
  unfold gval at h
  have sk : some (SV.v undef, S) = some (x, S') → S' = S := by
    intro h; simp only [Option.some.injEq, Prod.mk.injEq] at h; exact h.2.symm
  have go : gop k cf o ρ S = some (x, S') → S' = S := by
    intro h
    rw [gop_load ho] at h
    simp only [Option.map_eq_some_iff, Prod.mk.injEq] at h
    obtain ⟨_, _, _, h⟩ := h
    exact h.symm
  split at h
  · exact go h
  · split at h
    · cases h
    · split at h
      · exact go h
      · exact sk h
    · exact sk h

theorem gval_load_same {o : COp} {ρ : Nat → SV} {S S2 : St} {x : SV} {m : Nat} (hc : cls k o = .load) (hl : loadOK m o ρ = true) (hs : ∀ b, b < m → objCells (S2.get b) = objCells (S.get b)) (h : gval k cf o ρ S = some (x, S)) : gval k cf o ρ S2 = some (x, S2) := by
  obtain ⟨t, a, ho⟩ := cls_load hc
  have hsame : loadE k t (ev ρ a) S2 = loadE k t (ev ρ a) S := by
    refine loadE_same fun b off e => hs b ?_
    unfold loadOK at hl
    simp only [ho, e] at hl
    simpa using hl
  have go : gop k cf o ρ S = some (x, S) → gop k cf o ρ S2 = some (x, S2) := by
    intro h
    rw [gop_load ho] at h ⊢
    rw [hsame]
    simp only [Option.map_eq_some_iff, Prod.mk.injEq] at h ⊢
    obtain ⟨y, h1, rfl, _⟩ := h
    exact ⟨y, h1, by simp⟩
  have sk : some (SV.v undef, S) = some (x, S) → some (SV.v undef, S2) = some (x, S2) := by
    intro h; simp only [Option.some.injEq, Prod.mk.injEq] at h; rw [h.1]
  unfold gval at h ⊢
  split at h
  · exact go h
  · split at h
    · cases h
    · split at h
      · rename_i hbw; rw [if_pos hbw]; exact go h
      · rename_i hbw; rw [if_neg hbw]; exact sk h
    · exact sk h

theorem get_alloc_lt {S : St} {o : SObj} {b : Nat} (h : b < S.next) : (S.alloc o).get b = S.get b := by simp [St.alloc]; omega

theorem grow_new {S S' : St} (m : Nat) (hm : m ≤ S.next) {o : SObj} (h : S' = S.alloc o) : (∀ b, b < m → objCells (S'.get b) = objCells (S.get b)) := by
  subst h
  intro b hb
  rw [get_alloc_lt (by omega)]

theorem append_grow {t e : TypeId} {s y x : SV} {S S' : St} (m : Nat) (hm : m ≤ S.next) (he : elem? k t = some e) (hb : k.inBox e ≠ 1) (h : appendE k t s y S = some (x, S')) : ∀ b, b < m → objCells (S'.get b) = objCells (S.get b) := by
  simp only [appendE, Option.bind_eq_some_iff] at h
  obtain ⟨e', he', sz, hsz, by_, hby, z, hz, ⟨n, ys⟩, hsrc, h⟩ := h
  obtain rfl : e = e' := by rw [he] at he'; injection he'
  simp only [hb, if_false, ne_eq, not_false_eq_true, and_true, and_false] at h
  have hsame : S = S' → ∀ b, b < m → objCells (S'.get b) = objCells (S.get b) := by rintro rfl b _; rfl
  split at h
  · cases h
  split at h
  · split at h <;> first | (simp only [Option.some.injEq, Prod.mk.injEq] at h; exact hsame h.2) | cases h
  · split at h
    · split at h
      · simp only [Option.some.injEq, Prod.mk.injEq] at h; exact grow_new m hm h.2.symm
      · cases h
    · split at h
      · simp only [Option.some.injEq, Prod.mk.injEq] at h; exact grow_new m hm h.2.symm
      · cases h
    · rename_i b n1 cs
      split at h
      · rename_i hget
        split at h
        · simp only [Option.some.injEq, Prod.mk.injEq] at h
          obtain ⟨_, rfl⟩ := h
          intro b' hb'
          rw [get_alloc_lt (show b' < (S.put b .dead).next by show b' < S.next; omega)]
          by_cases hbb : b' = b
          · subst hbb; simp [St.put, hget, objCells]
          · simp [St.put, hbb]
        · cases h
      · cases h
    · split at h
      · simp at h
      · cases h
    · cases h

theorem gop_grow (hcf : Closed k cf) {o : COp} {ρ : Nat → SV} {S S' : St} {x : SV} {m : Nat} (hm : m ≤ S.next) (hc : cls k o = .grow) (h : gop k cf o ρ S = some (x, S')) : ∀ b, b < m → objCells (S'.get b) = objCells (S.get b) := by
  obtain ⟨d, op, ty, g⟩ := o
  cases op with
  | alloc t =>
    simp only [gop, evOpF, frozen, Bool.false_eq_true, if_false, evOp, Option.map_eq_some_iff, Prod.mk.injEq] at h
    obtain ⟨z, _, _, h⟩ := h
    exact grow_new m hm h.symm
  | box t y =>
    simp only [cls] at hc
    split at hc
    · cases hc
    · rename_i hs
      simp only [gop, evOpF, frozen, Bool.false_eq_true, if_false, evOp, hs, Option.map_eq_some_iff, Prod.mk.injEq] at h
      obtain ⟨z, _, _, h⟩ := h
      exact grow_new m hm h.symm
  | buildSlice t n parts =>
    simp only [cls] at hc
    split at hc
    · cases hc
    · rename_i hf
      simp only [gop, evOpF_not (fun q => hf (.inl q)), evOp, Option.bind_eq_some_iff] at h
      obtain ⟨e, he, z, hz, sz, hsz, pl, hpl, h⟩ := h
      split at h
      · cases h
      · simp only [Option.map_eq_some_iff] at h
        obtain ⟨cs, _, h⟩ := h
        split at h
        · simp only [Prod.mk.injEq] at h
          obtain ⟨_, rfl⟩ := h
          intro b _; rfl
        · split at h
          · simp only [Prod.mk.injEq] at h; exact grow_new m hm h.2.symm
          · simp only [Prod.mk.injEq] at h; exact grow_new m hm h.2.symm
  | call c =>
    obtain ⟨cal, args, ats⟩ := c
    cases cal with
    | value f =>
      cases f with
      | func f =>
        simp only [cls] at hc
        split at hc
        · cases hc
        · split at hc
          · cases hc
          · split at hc
            · rename_i hpg
              intro b hb
              exact (hcf.grow f [] [] _ S x S' hpg h).2 b (by omega)
            · cases hc
      | _ => simp [cls] at hc
    | builtin b =>
      cases b with
      | append =>
        simp only [cls] at hc
        split at hc
        · cases hc
        · rename_i hf
          split at hc
          · rename_i t ts hts
            split at hc
            · rename_i e he
              split at hc
              · cases hc
              · rename_i hbx
                simp only [gop, evOpF_not hf, evOp] at h
                obtain ⟨t', t2, s, y, heq, h⟩ := builtin_append h
                have : t' = t := by rw [hts] at heq; injection heq with h1 h2; exact h1.symm
                subst this
                exact append_grow m hm he hbx h
            · cases hc
          · cases hc
      | _ => simp [cls] at hc
    | _ => simp [cls] at hc
  | slice t y lo hi mx => cases mx <;> simp [cls] at hc
  | _ => simp [cls] at hc

theorem gval_grow (hcf : Closed k cf) {o : COp} {ρ : Nat → SV} {S S' : St} {x : SV} {m : Nat} (hm : m ≤ S.next) (hc : cls k o = .grow) (h : gval k cf o ρ S = some (x, S')) : ∀ b, b < m → objCells (S'.get b) = objCells (S.get b) := by
  unfold gval at h
  have sk : some (SV.v undef, S) = some (x, S') → ∀ b, b < m → objCells (S'.get b) = objCells (S.get b) := by
    intro h; simp only [Option.some.injEq, Prod.mk.injEq] at h; obtain ⟨_, rfl⟩ := h; intro b _; rfl
  split at h
  · exact gop_grow hcf hm hc h
  · split at h
    · cases h
    · split at h
      · exact gop_grow hcf hm hc h
      · exact sk h
    · exact sk h
theorem gop_peek (hcf : Closed k cf) {o : COp} {ρ : Nat → SV} {S S' : St} {x : SV} (hc : cls k o = .peek) (h : gop k cf o ρ S = some (x, S')) : S' = S := by
  obtain ⟨d, op, ty, g⟩ := o
  cases op with
  | lookup t a i ok =>
    simp only [gop, evOpF, frozen, Bool.false_eq_true, if_false, evOp, Option.map_eq_some_iff, Prod.mk.injEq] at h
    obtain ⟨_, _, _, h⟩ := h
    exact h.symm
  | box t y => simp only [cls] at hc; split at hc <;> cases hc
  | buildSlice t n parts => simp only [cls] at hc; split at hc <;> cases hc
  | slice t y lo hi mx => cases mx <;> simp [cls] at hc
  | call c =>
    obtain ⟨cal, args, ats⟩ := c
    cases cal with
    | value f =>
      cases f with
      | func f =>
        simp only [cls] at hc
        split at hc
        · cases hc
        · split at hc
          · rename_i hf
            exact hcf.peek f [] [] _ S x S' hf.1 hf.2 h
          · split at hc <;> cases hc
      | _ => simp [cls] at hc
    | builtin b =>
      cases b with
      | append =>
        simp only [cls] at hc
        split at hc
        · cases hc
        · split at hc
          · split at hc
            · split at hc <;> cases hc
            · cases hc
          · cases hc
      | _ => simp [cls] at hc
    | _ => simp [cls] at hc
  | _ => simp [cls] at hc

theorem gval_peek (hcf : Closed k cf) {o : COp} {ρ : Nat → SV} {S S' : St} {x : SV} (hc : cls k o = .peek) (h : gval k cf o ρ S = some (x, S')) : S' = S := by
  unfold gval at h
  have sk : some (SV.v undef, S) = some (x, S') → S' = S := by
    intro h; simp only [Option.some.injEq, Prod.mk.injEq] at h; exact h.2.symm
  split at h
  · exact gop_peek hcf hc h
  · split at h
    · cases h
    · split at h
      · exact gop_peek hcf hc h
      · exact sk h
    · exact sk h
end
end Go.Sv
end
