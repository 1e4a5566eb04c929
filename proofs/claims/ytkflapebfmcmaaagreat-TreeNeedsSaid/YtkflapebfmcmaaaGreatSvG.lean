/- A part of the proofs of this seat's laws: an interpreter of the program's form, its soundness against the model, or what it answers on this program. -/
/- Orders of a region; code. -/
import Derived.Test.YtkflapebfmcmaaaGreatSvF
namespace Go.Sv
open Go Go.RowKit

/-! #### the orders that the machine draws -/
structure LInv (ops : Array Oper) (listed : Array Bool) (acc : List Nat) : Prop where
  size : listed.size = ops.size
  mem : ∀ i, i < ops.size → (listed.getD i true = true ↔ i ∈ acc)
  lt : ∀ i ∈ acc, i < ops.size
  nodup : acc.Nodup
  ord : ∀ (l₁ : List Nat) (i : Nat) (l₂ : List Nat), acc.reverse = l₁ ++ i :: l₂ → ∀ d ∈ (ops.toList.map compDeps).getD i [], d ∈ l₁

theorem deps_get (ops : Array Oper) (i : Nat) (o : Oper) (h : ops[i]? = some o) : (ops.toList.map compDeps).getD i [] = compDeps o := by
  simp [List.getD, h]

theorem len_le_of_nodup : ∀ (n : Nat) (l : List Nat), l.Nodup → (∀ i ∈ l, i < n) → l.length ≤ n
  | 0, l, _, h => by
    cases l with
    | nil => simp
    | cons a r => exact absurd (h a (by simp)) (by omega)
  | n + 1, l, hn, h => by
    have h1 := len_le_of_nodup n (l.erase n) (hn.erase n) (fun i hi => by
      have h2 := h i (List.mem_of_mem_erase hi)
      have h3 : i ≠ n := fun e => by subst e; exact (List.Nodup.not_mem_erase hn) hi
      omega)
    have : l.length ≤ (l.erase n).length + 1 := by
      rw [List.length_erase]; split <;> omega
    omega

theorem all_of_len : ∀ (n : Nat) (l : List Nat), l.Nodup → (∀ i ∈ l, i < n) → l.length = n → ∀ i, i < n → i ∈ l := by
  intro n l hn h hl i hi
  rcases Classical.em (i ∈ l) with hm | hm
  · exact hm
  · have h2 := len_le_of_nodup n (i :: l) (List.nodup_cons.2 ⟨hm, hn⟩) (fun j hj => by
      rcases List.mem_cons.1 hj with rfl | hj
      · exact hi
      · exact h j hj)
    simp at h2; omega

theorem nodup_rev {l : List Nat} (h : l.Nodup) : l.reverse.Nodup := by
  unfold List.Nodup at h ⊢
  rw [List.pairwise_reverse]
  exact h.imp (fun h e => h e.symm)

theorem sub_len : ∀ (l m : List Nat), l.Nodup → (∀ i ∈ l, i ∈ m) → l.length ≤ m.length
  | [], m, _, _ => by simp
  | a :: r, m, hn, h => by
    obtain ⟨h1, h2⟩ := List.nodup_cons.1 hn
    have ha := h a (by simp)
    have := sub_len r (m.erase a) h2 (fun i hi => by
      have hne : i ≠ a := fun e => by subst e; exact h1 hi
      exact (List.mem_erase_of_ne hne).2 (h i (by simp [hi])))
    rw [List.length_erase_of_mem ha] at this
    have : 0 < m.length := List.length_pos_of_mem ha
    simp; omega

theorem getD_bool {a : Array Bool} {i : Nat} (h : i < a.size) : a.getD i false = a.getD i true := by simp [Array.getD, h]

theorem fm_congr {α β : Type} {f g : α → Option β} : ∀ (l : List α), (∀ i ∈ l, f i = g i) → l.filterMap f = l.filterMap g
  | [], _ => rfl
  | a :: r, h => by
    rw [List.filterMap_cons, List.filterMap_cons, h a (by simp), fm_congr r (fun i hi => h i (by simp [hi]))]

theorem go_lin (ops : Array Oper) (hlow : ∀ i, ∀ d ∈ (ops.toList.map compDeps).getD i [], d < i) : ∀ (fuel t : Nat) (listed : Array Bool) (acc : List Nat), LInv ops listed acc → fuel + acc.length = ops.size → LinExt (ops.toList.map compDeps) (Region.linearise.go .any ops fuel t listed acc)
  | 0, t, listed, acc, h, hl => by
    simp only [Region.linearise.go]
    refine ⟨nodup_rev h.nodup, fun i => ?_, h.ord⟩
    simp only [List.mem_reverse, List.length_map, Array.length_toList]
    exact ⟨h.lt i, fun hi => all_of_len _ _ h.nodup h.lt (by omega) i hi⟩
  | fuel + 1, t, listed, acc, h, hl => by
    simp only [Region.linearise.go]
    generalize hrs : (List.range ops.size).filter _ = rs
    -- some operation is ready
    have hne : rs ≠ [] := by
      have hex : ∃ i, i < ops.size ∧ i ∉ acc := by
        rcases Classical.em (∃ i, i < ops.size ∧ i ∉ acc) with h1 | h1
        · exact h1
        · have hall : ∀ i ∈ List.range ops.size, i ∈ acc := fun i hi => by
            rcases Classical.em (i ∈ acc) with h2 | h2
            · exact h2
            · exact (h1 ⟨i, List.mem_range.1 hi, h2⟩).elim
          have : ops.size ≤ acc.length := by
            have := sub_len _ acc List.nodup_range hall
            simpa using this
          omega
      have hmin : ∃ i, (i < ops.size ∧ i ∉ acc) ∧ ∀ j, j < i → ¬ (j < ops.size ∧ j ∉ acc) := by
        obtain ⟨i, hi⟩ := hex
        induction i using Nat.strongRecOn with
        | _ i ih =>
          rcases Classical.em (∃ j, j < i ∧ j < ops.size ∧ j ∉ acc) with ⟨j, hj, hj'⟩ | hno
          · exact ih j hj hj'
          · exact ⟨i, hi, fun j hj hj' => hno ⟨j, hj, hj'⟩⟩
      obtain ⟨i, ⟨hi, hia⟩, hm⟩ := hmin
      intro hr
      have : i ∈ (List.range ops.size).filter fun i => !listed.getD i true && ((ops[i]?).map (·.after.all fun e => !Region.binds .any e || listed.getD e.on false)).getD false := by
        rw [List.mem_filter]
        refine ⟨List.mem_range.2 hi, ?_⟩
        have hni : listed.getD i true = false := by
          cases hb : listed.getD i true with
          | false => rfl
          | true => exact (hia ((h.mem i hi).1 hb)).elim
        have hoi : ops[i]? = some ops[i] := Array.getElem?_eq_getElem hi
        simp only [hni, hoi, Option.map_some, Option.getD_some, Bool.not_false, Bool.true_and, Array.all_eq_true_iff_forall_mem]
        intro e he
        cases hb : Region.binds .any e with
        | false => rfl
        | true =>
          have hd : e.on ∈ (ops.toList.map compDeps).getD i [] := by
            rw [deps_get ops i _ hoi]
            exact List.mem_map.2 ⟨e, List.mem_filter.2 ⟨by simpa using he, hb⟩, rfl⟩
          have hlt := hlow i _ hd
          have hacc : e.on ∈ acc := by
            rcases Classical.em (e.on ∈ acc) with h2 | h2
            · exact h2
            · exact (hm e.on hlt ⟨by omega, h2⟩).elim
          have := (h.mem e.on (by omega)).2 hacc
          have hs : e.on < listed.size := by rw [h.size]; omega
          rw [getD_bool hs, this]; rfl
      rw [hrs, hr] at this
      cases this
    have hlen : 0 < rs.length := List.length_pos_iff.2 hne
    have hget : rs[t % rs.length]? = some (rs[t % rs.length]'(Nat.mod_lt _ hlen)) := List.getElem?_eq_getElem _
    rw [hget]
    simp only []
    generalize hi : rs[t % rs.length]'(Nat.mod_lt _ hlen) = i
    have him : i ∈ rs := by rw [← hi]; exact List.getElem_mem _
    rw [← hrs, List.mem_filter] at him
    obtain ⟨hir, hic⟩ := him
    have hio : i < ops.size := List.mem_range.1 hir
    have hoi : ops[i]? = some ops[i] := Array.getElem?_eq_getElem hio
    simp only [hoi, Option.map_some, Option.getD_some, Bool.and_eq_true, Bool.not_eq_true', Array.all_eq_true_iff_forall_mem] at hic
    obtain ⟨hnl, hdeps⟩ := hic
    have hni : i ∉ acc := fun hm => by have := (h.mem i hio).2 hm; rw [hnl] at this; cases this
    have his : i < listed.size := by rw [h.size]; exact hio
    refine go_lin ops hlow fuel (t / rs.length) _ (i :: acc) ⟨by simp [h.size], fun j hj => ?_, fun j hj => ?_, List.nodup_cons.2 ⟨hni, h.nodup⟩, ?_⟩ (by simp; omega)
    · have hjs : j < listed.size := by rw [h.size]; exact hj
      by_cases e : j = i
      · subst e; simp [Array.getD, hjs]
      · have := h.mem j hj
        have e2 : (listed.setIfInBounds i true).getD j true = listed.getD j true := by
          rw [Array.getD_eq_getD_getElem?, Array.getD_eq_getD_getElem?, Array.getElem?_setIfInBounds, if_neg (Ne.symm e)]
        rw [e2, this]
        simp [e]
    · rcases List.mem_cons.1 hj with rfl | hj
      · exact hio
      · exact h.lt j hj
    · intro l₁ j l₂ he d hd
      rw [List.reverse_cons] at he
      rcases List.eq_nil_or_concat l₂ with rfl | ⟨l3, x, rfl⟩
      · have := List.append_inj' he rfl
        obtain ⟨rfl, hji⟩ := this
        injection hji with hji
        subst hji
        rw [deps_get ops i _ hoi] at hd
        obtain ⟨e, he1, rfl⟩ := List.mem_map.1 hd
        obtain ⟨he2, he3⟩ := List.mem_filter.1 he1
        have hl := hdeps e (by simpa using he2)
        rw [he3] at hl
        simp only [Bool.not_true, Bool.false_or] at hl
        have hlt : e.on < listed.size := by
          rcases Nat.lt_or_ge e.on listed.size with h1 | h1
          · exact h1
          · simp [Array.getD, Nat.not_lt.2 h1] at hl
        have := (h.mem e.on (by rw [← h.size]; exact hlt)).1 (by rw [← getD_bool hlt]; exact hl)
        exact List.mem_reverse.2 this
      · rw [List.concat_eq_append, ← List.cons_append, ← List.append_assoc] at he
        have := List.append_inj' he rfl
        exact h.ord l₁ j l3 this.1 d hd

theorem sched_lin (ops : Array Oper) (hlow : ∀ i, ∀ d ∈ (ops.toList.map compDeps).getD i [], d < i) (t : Nat) : LinExt (ops.toList.map compDeps) (Region.schedule true ops t) := by
  simp only [Region.schedule, Bool.true_or, if_true, Region.linearise]
  refine go_lin ops hlow _ t _ [] ⟨by simp, fun i hi => by simp [Array.getD, hi], fun i hi => by simp at hi, List.nodup_nil, fun l₁ i l₂ h => by simp at h⟩ (by simp)

theorem pick_range (ops : Array Oper) : (List.range ops.size).filterMap (fun i => (ops[i]?).map (compOp ops)) = ops.toList.map (compOp ops) := by
  apply List.ext_getElem?
  intro i
  have h : (List.range ops.size).filterMap (fun i => (ops[i]?).map (compOp ops)) = (List.range ops.size).map fun i => ((ops[i]?).map (compOp ops)).getD ⟨none, .alloc 0, 0, none⟩ := by
    rw [← List.filterMap_eq_map]
    apply fm_congr
    intro j hj
    have : j < ops.size := List.mem_range.1 hj
    simp [this]
  rw [h]
  by_cases hi : i < ops.size
  · simp [hi]
  · simp [hi]

theorem pick_ops (ops : Array Oper) (l : List Nat) : pickOps (ops.toList.map (compOp ops)) l = l.filterMap fun i => (ops[i]?).map (compOp ops) := by
  unfold pickOps
  apply fm_congr
  intro i _
  simp
end Go.Sv
