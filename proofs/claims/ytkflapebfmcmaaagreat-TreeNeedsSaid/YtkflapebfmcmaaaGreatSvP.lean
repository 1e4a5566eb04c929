/- A part of the proofs of this seat's laws: an interpreter of the program's form, its soundness against the model, or what it answers on this program. -/
/- Operations on values; new boxes; slices; maps. -/
import Derived.Test.YtkflapebfmcmaaaGreatSvO
import Derived.Laws.NewBlocks
namespace Go.Sv
open Go Go.RowKit

def mkInts (sh : List IntKind) (as : List Int) : List Value := (sh.zip as).map fun p => .int p.1 p.2

section
variable {w0 : World} {g : Gh} {S : St} {w : World} {k : K}

theorem field_sound {t : TypeId} {i : Nat} {u : Value} {x y : SV} (hx : R g w u x) (h : fieldAddrE k t x i = some y) : ∃ v, (Instr.fieldAt t u i).run k.P w = .ok v w ∧ R g w v y := by
  unfold fieldAddrE at h
  split at h
  · rename_i fs hu
    split at h
    · rename_i f hf
      simp only [Option.bind_eq_some_iff] at h
      obtain ⟨sz, hsz, h⟩ := h
      split at h
      · cases h
      rename_i hz
      cases hx with
      | ptr b off hb =>
        simp only [Option.some.injEq] at h; subst h
        refine ⟨.pointer (some ⟨g.box b, off + f.offset, none⟩), ?_, .ptr b _ hb⟩
        simp [Instr.fieldAt, run_underlying hu, hf, Instr.sureAddr, fieldPlace, run_size hsz, hz, add_none]
      | cp B o cs F hc hR =>
        simp only [Option.some.injEq] at h; subst h
        refine ⟨.pointer (some ⟨B, o + f.offset, none⟩), ?_, .cp B _ _ (fun j => F (f.offset + j)) (fun j hj => ?_) (fun j c hj => ?_)⟩
        · simp [Instr.fieldAt, run_underlying hu, hf, Instr.sureAddr, fieldPlace, run_size hsz, hz, add_none]
        · have hj' : f.offset + j < cs.length := by simp at hj; omega
          have := hc (f.offset + j) hj'
          rwa [← Nat.add_assoc] at this
        · exact hR _ c (by rwa [List.getElem?_drop] at hj)
      | _ => cases h
    · cases h
  · cases h

theorem Cont.cut {B o n : Nat} {f : Nat → Value} (h : Cont g w B o n f) (m l : Nat) (hl : m + l ≤ n) : Cont g w B (o + m) l (fun j => f (m + j)) := fun j hj => by
  have := h (m + j) (by omega)
  rwa [← Nat.add_assoc] at this

theorem indexAddr_sound {t : TypeId} {u v : Value} {x i y : SV} (hx : R g w u x) (hi : R g w v i) (h : indexAddrE k t x i = some y) : ∃ r, (Instr.indexAt t u v).run k.P w = .ok r w ∧ R g w r y := by
  unfold indexAddrE at h
  split at h
  · rename_i q j
    cases hi
    split at h
    · rename_i e hu
      simp only [Option.bind_eq_some_iff] at h
      obtain ⟨sz, hsz, h⟩ := h
      have sl : ∀ (B o n c : Nat) (cs : List SV) (F : Nat → Value), Cont g w B o cs.length F → (∀ i c, cs[i]? = some c → R g w (F i) c) → 0 ≤ j ∧ j < n ∧ (j.toNat + 1) * sz ≤ cs.length →
          ∃ r, (Instr.indexAt t (.slice (some ⟨B, o, none⟩) n c) (.int q j)).run k.P w = .ok r w ∧ R g w r (.cp ((cs.drop (j.toNat * sz)).take sz)) := by
        intro B o n c cs F hc hR ⟨h0, h1, h2⟩
        have h3 : j.toNat * sz + sz ≤ cs.length := by rw [Nat.add_mul] at h2; omega
        refine ⟨.pointer (some ⟨B, o + j.toNat * sz, none⟩), ?_, .cp B _ _ (fun m => F (j.toNat * sz + m)) ?_ (fun m c hm => ?_)⟩
        · simp [Instr.indexAt, run_underlying hu, asIntOf, h0, h1, run_size hsz, add_none]
        · have hl : ((cs.drop (j.toNat * sz)).take sz).length = sz := by simp; omega
          rw [hl]; exact hc.cut _ _ h3
        · rw [List.getElem?_take] at hm
          split at hm
          · exact hR _ c (by rwa [List.getElem?_drop] at hm)
          · cases hm
      cases hx with
      | sl B o n c cs F hc hR hn =>
        try simp only [] at h
        split at h
        · rename_i hcond; simp only [Option.some.injEq] at h; subst h; exact sl B o n c cs F hc hR hcond
        · cases h
      | own b n cs F hb hc hR hn =>
        try simp only [] at h
        split at h
        · rename_i hcond; simp only [Option.some.injEq] at h; subst h; exact sl _ 0 n _ cs F hc hR hcond
        · cases h
      | arr b n hb hn =>
        try simp only [] at h
        split at h
        · rename_i hcond
          obtain ⟨h0, h1⟩ := hcond
          simp only [Option.some.injEq] at h; subst h
          refine ⟨.pointer (some ⟨g.box b, j.toNat * sz, none⟩), ?_, .ptr b _ hb⟩
          simp [Instr.indexAt, run_underlying hu, asIntOf, h0, h1, run_size hsz, add_none]
        · cases h
      | nil =>
        simp only [] at h
        split at h
        · rename_i hcond; omega
        · cases h
      | slz a c =>
        simp only [] at h
        split at h
        · rename_i hcond; omega
        · cases h
      | _ => cases h
    · rename_i n e hu
      simp only [Option.bind_eq_some_iff] at h
      obtain ⟨sz, hsz, h⟩ := h
      cases hx with
      | ptr b off hb =>
        try simp only [] at h
        split at h
        · rename_i hcond
          obtain ⟨h0, h1⟩ := hcond
          simp only [Option.some.injEq] at h; subst h
          refine ⟨.pointer (some ⟨g.box b, off + j.toNat * sz, none⟩), ?_, .ptr b _ hb⟩
          simp [Instr.indexAt, run_underlying hu, asIntOf, h0, h1, run_size hsz, add_none, Instr.sureAddr]
        · cases h
      | cp B o cs F hc hR =>
        try simp only [] at h
        split at h
        · rename_i hcond
          obtain ⟨h0, h1⟩ := hcond
          simp only [Option.some.injEq] at h; subst h
          refine ⟨.pointer (some ⟨B, o + j.toNat * sz, none⟩), ?_, .cp B _ _ (fun m => F (j.toNat * sz + m)) ?_ (fun m c hm => ?_)⟩
          · simp [Instr.indexAt, run_underlying hu, asIntOf, h0, h1, run_size hsz, add_none, Instr.sureAddr]
          · by_cases hl : j.toNat * sz ≤ cs.length
            · exact hc.cut _ _ (by simp; omega)
            · intro m hm; simp at hm; omega
          · exact hR _ c (by rwa [List.getElem?_drop] at hm)
        · cases h
      | _ => cases h
    · cases h
  · cases h

theorem len_sound {t ty : TypeId} {u : Value} {x y : SV} (hx : R g w u x) (h : lenE k t x = some y) : ∃ r, (Builtin.len_ #[t] ty #[u]).run k.P w = .ok r w ∧ R g w r y := by
  simp only [lenE, Option.bind_eq_some_iff] at h
  obtain ⟨e, he, h⟩ := h
  have hu := elem_some he
  split at h
  · injection h with h; cases hx; subst h; exact ⟨_, by simp [Builtin.len_, run_underlying hu]; rfl, .v _⟩
  · injection h with h; subst h; cases hx <;> exact ⟨_, by simp [Builtin.len_, run_underlying hu]; rfl, .v _⟩
  · injection h with h; subst h; cases hx; exact ⟨_, by simp [Builtin.len_, run_underlying hu]; rfl, .v _⟩
  · injection h with h; subst h; cases hx <;> exact ⟨_, by simp [Builtin.len_, run_underlying hu]; rfl, .v _⟩
  · cases h

theorem max_sound {ts : Array TypeId} {ty : TypeId} {u v : Value} {x y z : SV} (hx : R g w u x) (hy : R g w v y) (h : maxE x y = some z) : ∃ r, (Builtin.max_ ts ty #[u, v]).run k.P w = .ok r w ∧ R g w r z := by
  unfold maxE at h
  split at h
  · cases hx; cases hy
    split at h
    · simp only [Option.some.injEq] at h; subst h
      exact ⟨_, run_max_int2 w _ _ _ _ _ _, .v _⟩
    · cases h
  · cases h
end
end Go.Sv
