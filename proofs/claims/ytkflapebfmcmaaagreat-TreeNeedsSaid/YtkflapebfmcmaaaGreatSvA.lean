/- A part of the proofs of this seat's laws: an interpreter of the program's form, its soundness against the model, or what it answers on this program. -/
/- New boxes and literals. -/
import Derived.Test.YtkflapebfmcmaaaGreatSvQ
import Derived.Great.BuildSlice
namespace Go.Sv
open Go Go.RowKit

section
variable {w0 : World} {g : Gh} {S : St} {w : World} {k : K}

theorem scal_cells (g : Gh) (w : World) (a : Array Value) (h : ∀ c ∈ a.toList, flatV c = true) : Cs g w a (a.toList.map .v) := by
  intro i c hi
  simp only [List.getElem?_map, Option.map_eq_some_iff] at hi
  obtain ⟨x, hx, rfl⟩ := hi
  have e : a.getD i undef = x := by rw [getD_list]; simp [List.getD, hx]
  rw [e]
  exact ⟨.v x, h x (List.mem_of_getElem? hx)⟩

theorem fold_put (off : Nat) : ∀ (vs : List Value) (j : Nat) (a : Array Value), off + j + vs.length ≤ a.size →
    (vs.zipIdx j).foldl (fun cs x => cs.setIfInBounds (off + x.2) x.1) a = rowPut a (off + j) vs
  | [], j, a, _ => by simp [rowPut]
  | v :: r, j, a, h => by
    have hl : off + j < a.size := by simp at h; omega
    simp only [List.zipIdx_cons, List.foldl_cons]
    rw [fold_put off r (j + 1) _ (by simp at h ⊢; omega)]
    have e := list_seg_step a.toList (off + j) v r (by simp at h ⊢; omega)
    simp only [rowPut, Array.toList_setIfInBounds]
    simpa [Nat.add_assoc] using congrArg List.toArray e

theorem fill_sound {pl : Nat → Option (Nat × Nat)} : ∀ (ps : List (Nat × SV)) (vs : List (Nat × Value)) (cs cs' : List SV) (a : Array Value), vs.length = ps.length → (∀ (i : Nat) (p : Nat × SV), ps[i]? = some p → ∃ u, vs[i]? = some (p.1, u) ∧ R g w u p.2) →
    Cs g w a cs → a.size = cs.length → fillC pl ps cs = some cs' → ∃ a', Instr.fill pl a vs = some a' ∧ a'.size = cs'.length ∧ Cs g w a' cs' ∧ cs'.length = cs.length
  | [], [], cs, cs', a, _, _, hC, ha, h => by
    simp only [fillC, Option.some.injEq] at h; subst h
    exact ⟨a, rfl, ha, hC, rfl⟩
  | (i, x) :: ps, [], cs, cs', a, hl, _, _, _, _ => by simp at hl
  | [], _ :: _, cs, cs', a, hl, _, _, _, _ => by simp at hl
  | (i, x) :: ps, (i', u) :: vs, cs, cs', a, hl, hR, hC, ha, h => by
    simp only [fillC, Option.bind_eq_some_iff] at h
    obtain ⟨⟨o, s⟩, hp, ys, hys, h⟩ := h
    split at h
    · rename_i hc
      obtain ⟨h1, h2⟩ := hc
      obtain ⟨u', hu, hRu⟩ := hR 0 (i, x) rfl
      simp only [List.getElem?_cons_zero, Option.some.injEq, Prod.mk.injEq] at hu
      obtain ⟨rfl, rfl⟩ := hu
      obtain ⟨hn, hCy⟩ := cells_sound hRu hys
      simp only [] at h1 h2
      have hstep := fill_sound ps vs (splice cs o ys) cs' (rowPut a o u.cells.toList) (by simpa using hl) (fun j p hj => by simpa using hR (j + 1) p (by simpa using hj))
        (hC.put hCy hn h2 (by omega)) (by rw [rowPut_size _ _ _ (by simp; omega), splice_length _ _ _ h2, ha]) h
      obtain ⟨a', h3, h4, h5, h6⟩ := hstep
      refine ⟨a', ?_, h4, h5, by rw [h6, splice_length _ _ _ h2]⟩
      have hf := fold_put o u.cells.toList 0 a (by simp; omega)
      simp only [Nat.add_zero] at hf
      have hf' : (u.cells.zipIdx.foldl (fun cs x => cs.setIfInBounds (o + x.2) x.1) a) = rowPut a o u.cells.toList := by
        rw [← hf, ← Array.foldl_toList, Array.toList_zipIdx]
      simp only [Instr.fill, hp]
      rw [if_neg (by simp; omega)]
      rw [← h3]
      congr 1
    · cases h

theorem new_cells (hG : G w0 g S w) {cs : List SV} {a : Array Value} (T : TypeId) (hC : Cs g w a cs) (ha : a.size = cs.length) :
    ∃ g', R g' (w.alloc (.cells a T)) (.pointer (some ⟨w.heap.size, 0, none⟩)) (.ptr S.next 0) ∧ G w0 g' (S.alloc (.cells cs)) (w.alloc (.cells a T)) ∧ Tr S g w (S.alloc (.cells cs)) g' (w.alloc (.cells a T)) := by
  have hO : ObjR (g.add w.heap.size 0 0) (w.alloc (.cells a T)) g.n (.cells cs) := by
    have hext : Ext g w (g.add w.heap.size 0 0) (w.alloc (.cells a T)) := by
      refine ⟨rfl, Nat.le_succ _, fun b hb => add_box_old g _ _ _ hb, fun b hb => add_cap_old g _ _ _ hb, fun X => ?_, fun X i hX => cell_block (heap_alloc_old w _ X (hG.use_lt hX))⟩
      show g.use X ≤ if X = w.heap.size then 0 else g.use X
      split
      · subst X; rw [hG.fresh _ (Nat.le_refl _)]; exact Nat.le_refl _
      · exact Nat.le_refl _
    exact ⟨a, T, by rw [add_box]; exact heap_alloc_new w _, ha, hC.ext hext, by rw [add_box, add_use]⟩
  obtain ⟨h1, h2⟩ := hG.alloc (.cells a T) 0 0 (.cells cs) hO
  refine ⟨_, ?_, h1, h2⟩
  have := R.ptr (g := g.add w.heap.size 0 0) (w := w.alloc (.cells a T)) g.n 0 (Nat.lt_succ_self g.n)
  rwa [add_box, hG.n] at this

/-- A new slice, in a box or apart. -/
theorem new_slice (hG : G w0 g S w) {cs : List SV} {a : Array Value} (T : TypeId) (n c sz : Nat) (hC : Cs g w a cs) (hl : cs.length ≤ a.size) (hc : a.size = c * sz) (hn : n ≤ c) (hb : Bool) :
    ∃ g', R g' (w.alloc (.cells a T)) (.slice (some ⟨w.heap.size, 0, none⟩) n c) (if hb then .arr S.next n else .sl (some S.next) n cs) ∧ G w0 g' (S.alloc (if hb then .arr sz cs else .own sz cs.length)) (w.alloc (.cells a T)) ∧
      Tr S g w (S.alloc (if hb then .arr sz cs else .own sz cs.length)) g' (w.alloc (.cells a T)) := by
  have h0 := hG.fresh w.heap.size (Nat.le_refl _)
  have hext : ∀ u, Ext g w (g.add w.heap.size c u) (w.alloc (.cells a T)) := by
    intro u
    refine ⟨rfl, Nat.le_succ _, fun b hb => add_box_old g _ _ _ hb, fun b hb => add_cap_old g _ _ _ hb, fun X => ?_, fun X i hX => cell_block (heap_alloc_old w _ X (hG.use_lt hX))⟩
    show g.use X ≤ if X = w.heap.size then u else g.use X
    split
    · subst X; rw [h0]; exact Nat.zero_le _
    · exact Nat.le_refl _
  cases hb with
  | true =>
    simp only [if_true]
    have hO : ObjR (g.add w.heap.size c 0) (w.alloc (.cells a T)) g.n (.arr sz cs) :=
      ⟨a, T, by rw [add_box]; exact heap_alloc_new w _, by rw [add_cap]; exact hc, hl, hC.ext (hext 0), by rw [add_box, add_use]⟩
    obtain ⟨h1, h2⟩ := hG.alloc (.cells a T) c 0 _ hO
    refine ⟨_, ?_, h1, h2⟩
    have := R.arr (g := g.add w.heap.size c 0) (w := w.alloc (.cells a T)) g.n n (Nat.lt_succ_self g.n) (by rw [add_cap]; exact hn)
    rwa [add_box, add_cap, hG.n] at this
  | false =>
    simp only [Bool.false_eq_true, if_false]
    have hO : ObjR (g.add w.heap.size c cs.length) (w.alloc (.cells a T)) g.n (.own sz cs.length) :=
      ⟨a, T, by rw [add_box]; exact heap_alloc_new w _, by rw [add_cap]; exact hc, hl, by rw [add_box, add_use]⟩
    obtain ⟨h1, h2⟩ := hG.alloc (.cells a T) c cs.length _ hO
    refine ⟨_, ?_, h1, h2⟩
    have hC' := hC.ext (hext cs.length)
    have := R.own (g := g.add w.heap.size c cs.length) (w := w.alloc (.cells a T)) g.n n cs (fun i => a.getD i undef) (Nat.lt_succ_self g.n) ?_ (fun i x hi => (hC' i x hi).1) (by rw [add_cap]; exact hn)
    · rwa [add_box, add_cap, hG.n] at this
    · intro i hi
      rw [add_box, add_use]
      refine ⟨by omega, ?_, (hC' i _ (List.getElem?_eq_getElem hi)).2⟩
      rw [cell_of_row _ _ _ a T (0, 0) (heap_alloc_new w _)]
      have : i < a.size := by omega
      simp [Array.getD, this]
end
end Go.Sv
