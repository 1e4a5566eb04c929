/- A part of the proofs of this seat's laws: an interpreter of the program's form, its soundness against the model, or what it answers on this program. -/
/- Any order comes to the same. -/
import Derived.Test.YtkflapebfmcmaaaGreatSvY
namespace Go.Sv
open Go

section
variable {k : K} {cf : CallF}

theorem gval_pure (hcf : Closed k cf) {o : COp} {ρ : Nat → SV} {S S' : St} {x : SV} (hc : cls k o = .pure) (h : gval k cf o ρ S = some (x, S')) : S' = S ∧ ∀ S2, gval k cf o ρ S2 = some (x, S2) := by
  unfold gval at h ⊢
  cases hg : o.g with
  | none => simp only [hg] at h ⊢; exact pure_go hcf hc h
  | some p =>
    obtain ⟨t, w⟩ := p
    simp only [hg] at h ⊢
    have sk : some (SV.v undef, S) = some (x, S') → S' = S ∧ ∀ S2 : St, some (SV.v undef, S2) = some (x, S2) := by
      intro h
      simp only [Option.some.injEq, Prod.mk.injEq] at h; obtain ⟨rfl, rfl⟩ := h; exact ⟨rfl, fun _ => rfl⟩
    split at h
    · cases h
    · split at h
      · rename_i hb; simp only [hb, if_true]; exact pure_go hcf hc h
      · rename_i hb; simp only [hb, if_false]; exact sk h
    · exact sk h

theorem cls_load {o : COp} (hc : cls k o = .load) : ∃ t a, o.op = .load t a := by
  obtain ⟨d, op, ty, g⟩ := o
  cases op with
  | load t a => exact ⟨t, a, rfl⟩
  | box t y => simp only [cls] at hc; split at hc <;> cases hc
  | buildSlice t n parts => simp only [cls] at hc; split at hc <;> cases hc
  | slice t y lo hi mx => cases mx <;> simp [cls] at hc
  | call c =>
    obtain ⟨cal, args, ats⟩ := c
    cases cal with
    | value f =>
      cases f with
      | func f =>
        simp only [cls] at hc
        split at hc
        · cases hc
        · split at hc
          · cases hc
          · split at hc <;> cases hc
      | _ => simp [cls] at hc
    | builtin b =>
      cases b with
      | append =>
        simp only [cls] at hc
        split at hc
        · cases hc
        · split at hc
          · split at hc
            · split at hc <;> cases hc
            · cases hc
          · cases hc
      | _ => simp [cls] at hc
    | _ => simp [cls] at hc
  | _ => simp [cls] at hc

theorem evOpF_not {o : COp} {ρ : Nat → SV} {S : St} (hf : ¬ frozen k o = true) : evOpF k o ρ S = evOp k o ρ S := by
  unfold evOpF
  rw [if_neg hf]

theorem builtin_append {ts : List TypeId} {args : List SV} {S : St} {r : SV × St} (h : builtinE k .append ts args S = some r) : ∃ t t2 s y, ts = [t, t2] ∧ appendE k t s y S = some r := by
  rcases ts with _ | ⟨t, _ | ⟨t2, _ | ⟨t3, ts⟩⟩⟩ <;> rcases args with _ | ⟨y, _ | ⟨z, _ | ⟨z2, args⟩⟩⟩ <;> first | (simp [builtinE] at h; done) | skip
  simp only [builtinE] at h
  split at h
  · exact ⟨t, t2, y, z, rfl, h⟩
  · cases h

theorem gop_load {o : COp} {t : TypeId} {a : Operand} (ho : o.op = .load t a) (ρ : Nat → SV) (S : St) : gop k cf o ρ S = (loadE k t (ev ρ a) S).map fun x => (x, S) := by
  obtain ⟨d, op, ty, g⟩ := o
  simp only at ho; subst ho
  simp [gop, evOpF, frozen, evOp]

theorem loadE_same {t : TypeId} {a : SV} {S1 S2 : St} (h : ∀ b off, a = .ptr b off → objCells (S1.get b) = objCells (S2.get b)) : loadE k t a S1 = loadE k t a S2 := by
  unfold loadE
  cases a with
  | ptr b off => simp only [h b off rfl]
  | _ => rfl

theorem gval_load {o : COp} {ρ : Nat → SV} {S S' : St} {x : SV} (hc : cls k o = .load) (h : gval k cf o ρ S = some (x, S')) : S' = S := by
  obtain ⟨t, a, ho⟩ := cls_load hc
  unfold gval at h
  have sk : some (SV.v undef, S) = some (x, S') → S' = S := by
    intro h; simp only [Option.some.injEq, Prod.mk.injEq] at h; exact h.2.symm
  have go : gop k cf o ρ S = some (x, S') → S' = S := by
    intro h
    rw [gop_load ho] at h
    simp only [Option.map_eq_some_iff, Prod.mk.injEq] at h
    obtain ⟨_, _, _, h⟩ := h
    exact h.symm
  split at h
  · exact go h
  · split at h
    · cases h
    · split at h
      · exact go h
      · exact sk h
    · exact sk h

theorem gval_load_same {o : COp} {ρ : Nat → SV} {S S2 : St} {x : SV} {m : Nat} (hc : cls k o = .load) (hl : loadOK m o ρ = true) (hs : ∀ b, b < m → objCells (S2.get b) = objCells (S.get b)) (h : gval k cf o ρ S = some (x, S)) : gval k cf o ρ S2 = some (x, S2) := by
  obtain ⟨t, a, ho⟩ := cls_load hc
  have hsame : loadE k t (ev ρ a) S2 = loadE k t (ev ρ a) S := by
    refine loadE_same fun b off e => hs b ?_
    unfold loadOK at hl
    simp only [ho, e] at hl
    simpa using hl
  have go : gop k cf o ρ S = some (x, S) → gop k cf o ρ S2 = some (x, S2) := by
    intro h
    rw [gop_load ho] at h ⊢
    rw [hsame]
    simp only [Option.map_eq_some_iff, Prod.mk.injEq] at h ⊢
    obtain ⟨y, h1, rfl, _⟩ := h
    exact ⟨y, h1, by simp⟩
  have sk : some (SV.v undef, S) = some (x, S) → some (SV.v undef, S2) = some (x, S2) := by
    intro h; simp only [Option.some.injEq, Prod.mk.injEq] at h; rw [h.1]
  unfold gval at h ⊢
  split at h
  · exact go h
  · split at h
    · cases h
    · split at h
      · rename_i hbw; rw [if_pos hbw]; exact go h
      · rename_i hbw; rw [if_neg hbw]; exact sk h
    · exact sk h

theorem get_alloc_lt {S : St} {o : SObj} {b : Nat} (h : b < S.next) : (S.alloc o).get b = S.get b := by simp [St.alloc]; omega

theorem grow_new {S S' : St} (m : Nat) (hm : m ≤ S.next) {o : SObj} (h : S' = S.alloc o) : (∀ b, b < m → objCells (S'.get b) = objCells (S.get b)) := by
  subst h
  intro b hb
  rw [get_alloc_lt (by omega)]

theorem append_grow {t e : TypeId} {s y x : SV} {S S' : St} (m : Nat) (hm : m ≤ S.next) (he : elem? k t = some e) (hb : k.inBox e ≠ 1) (h : appendE k t s y S = some (x, S')) : ∀ b, b < m → objCells (S'.get b) = objCells (S.get b) := by
  simp only [appendE, Option.bind_eq_some_iff] at h
  obtain ⟨e', he', sz, hsz, by_, hby, z, hz, ⟨n, ys⟩, hsrc, h⟩ := h
  obtain rfl : e = e' := by rw [he] at he'; injection he'
  simp only [hb, if_false, ne_eq, not_false_eq_true, and_true, and_false] at h
  have hsame : S = S' → ∀ b, b < m → objCells (S'.get b) = objCells (S.get b) := by rintro rfl b _; rfl
  split at h
  · cases h
  split at h
  · split at h <;> first | (simp only [Option.some.injEq, Prod.mk.injEq] at h; exact hsame h.2) | cases h
  · split at h
    · split at h
      · simp only [Option.some.injEq, Prod.mk.injEq] at h; exact grow_new m hm h.2.symm
      · cases h
    · split at h
      · simp only [Option.some.injEq, Prod.mk.injEq] at h; exact grow_new m hm h.2.symm
      · cases h
    · rename_i b n1 cs
      split at h
      · rename_i hget
        split at h
        · simp only [Option.some.injEq, Prod.mk.injEq] at h
          obtain ⟨_, rfl⟩ := h
          intro b' hb'
          rw [get_alloc_lt (show b' < (S.put b .dead).next by show b' < S.next; omega)]
          by_cases hbb : b' = b
          · subst hbb; simp [St.put, hget, objCells]
          · simp [St.put, hbb]
        · cases h
      · cases h
    · split at h
      · simp at h
      · cases h
    · cases h

theorem gop_grow (hcf : Closed k cf) {o : COp} {ρ : Nat → SV} {S S' : St} {x : SV} {m : Nat} (hm : m ≤ S.next) (hc : cls k o = .grow) (h : gop k cf o ρ S = some (x, S')) : ∀ b, b < m → objCells (S'.get b) = objCells (S.get b) := by
  obtain ⟨d, op, ty, g⟩ := o
  cases op with
  | alloc t =>
    simp only [gop, evOpF, frozen, Bool.false_eq_true, if_false, evOp, Option.map_eq_some_iff, Prod.mk.injEq] at h
    obtain ⟨z, _, _, h⟩ := h
    exact grow_new m hm h.symm
  | box t y =>
    simp only [cls] at hc
    split at hc
    · cases hc
    · rename_i hs
      simp only [gop, evOpF, frozen, Bool.false_eq_true, if_false, evOp, hs, Option.map_eq_some_iff, Prod.mk.injEq] at h
      obtain ⟨z, _, _, h⟩ := h
      exact grow_new m hm h.symm
  | buildSlice t n parts =>
    simp only [cls] at hc
    split at hc
    · cases hc
    · rename_i hf
      simp only [gop, evOpF_not (fun q => hf (.inl q)), evOp, Option.bind_eq_some_iff] at h
      obtain ⟨e, he, z, hz, sz, hsz, pl, hpl, h⟩ := h
      split at h
      · cases h
      · simp only [Option.map_eq_some_iff] at h
        obtain ⟨cs, _, h⟩ := h
        split at h
        · simp only [Prod.mk.injEq] at h
          obtain ⟨_, rfl⟩ := h
          intro b _; rfl
        · split at h
          · simp only [Prod.mk.injEq] at h; exact grow_new m hm h.2.symm
          · simp only [Prod.mk.injEq] at h; exact grow_new m hm h.2.symm
  | call c =>
    obtain ⟨cal, args, ats⟩ := c
    cases cal with
    | value f =>
      cases f with
      | func f =>
        simp only [cls] at hc
        split at hc
        · cases hc
        · split at hc
          · cases hc
          · split at hc
            · rename_i hpg
              intro b hb
              exact (hcf.grow f [] [] _ S x S' hpg h).2 b (by omega)
            · cases hc
      | _ => simp [cls] at hc
    | builtin b =>
      cases b with
      | append =>
        simp only [cls] at hc
        split at hc
        · cases hc
        · rename_i hf
          split at hc
          · rename_i t ts hts
            split at hc
            · rename_i e he
              split at hc
              · cases hc
              · rename_i hbx
                simp only [gop, evOpF_not hf, evOp] at h
                obtain ⟨t', t2, s, y, heq, h⟩ := builtin_append h
                have : t' = t := by rw [hts] at heq; injection heq with h1 h2; exact h1.symm
                subst this
                exact append_grow m hm he hbx h
            · cases hc
          · cases hc
      | _ => simp [cls] at hc
    | _ => simp [cls] at hc
  | slice t y lo hi mx => cases mx <;> simp [cls] at hc
  | _ => simp [cls] at hc

theorem gval_grow (hcf : Closed k cf) {o : COp} {ρ : Nat → SV} {S S' : St} {x : SV} {m : Nat} (hm : m ≤ S.next) (hc : cls k o = .grow) (h : gval k cf o ρ S = some (x, S')) : ∀ b, b < m → objCells (S'.get b) = objCells (S.get b) := by
  unfold gval at h
  have sk : some (SV.v undef, S) = some (x, S') → ∀ b, b < m → objCells (S'.get b) = objCells (S.get b) := by
    intro h; simp only [Option.some.injEq, Prod.mk.injEq] at h; obtain ⟨_, rfl⟩ := h; intro b _; rfl
  split at h
  · exact gop_grow hcf hm hc h
  · split at h
    · cases h
    · split at h
      · exact gop_grow hcf hm hc h
      · exact sk h
    · exact sk h
theorem gop_peek (hcf : Closed k cf) {o : COp} {ρ : Nat → SV} {S S' : St} {x : SV} (hc : cls k o = .peek) (h : gop k cf o ρ S = some (x, S')) : S' = S := by
  obtain ⟨d, op, ty, g⟩ := o
  cases op with
  | lookup t a i ok =>
    simp only [gop, evOpF, frozen, Bool.false_eq_true, if_false, evOp, Option.map_eq_some_iff, Prod.mk.injEq] at h
    obtain ⟨_, _, _, h⟩ := h
    exact h.symm
  | box t y => simp only [cls] at hc; split at hc <;> cases hc
  | buildSlice t n parts => simp only [cls] at hc; split at hc <;> cases hc
  | slice t y lo hi mx => cases mx <;> simp [cls] at hc
  | call c =>
    obtain ⟨cal, args, ats⟩ := c
    cases cal with
    | value f =>
      cases f with
      | func f =>
        simp only [cls] at hc
        split at hc
        · cases hc
        · split at hc
          · rename_i hf
            exact hcf.peek f [] [] _ S x S' hf.1 hf.2 h
          · split at hc <;> cases hc
      | _ => simp [cls] at hc
    | builtin b =>
      cases b with
      | append =>
        simp only [cls] at hc
        split at hc
        · cases hc
        · split at hc
          · split at hc
            · split at hc <;> cases hc
            · cases hc
          · cases hc
      | _ => simp [cls] at hc
    | _ => simp [cls] at hc
  | _ => simp [cls] at hc

theorem gval_peek (hcf : Closed k cf) {o : COp} {ρ : Nat → SV} {S S' : St} {x : SV} (hc : cls k o = .peek) (h : gval k cf o ρ S = some (x, S')) : S' = S := by
  unfold gval at h
  have sk : some (SV.v undef, S) = some (x, S') → S' = S := by
    intro h; simp only [Option.some.injEq, Prod.mk.injEq] at h; exact h.2.symm
  split at h
  · exact gop_peek hcf hc h
  · split at h
    · cases h
    · split at h
      · exact gop_peek hcf hc h
      · exact sk h
    · exact sk h
end
end Go.Sv
