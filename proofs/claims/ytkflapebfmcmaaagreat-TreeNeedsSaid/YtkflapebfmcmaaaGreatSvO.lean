/- A part of the proofs of this seat's laws: an interpreter of the program's form, its soundness against the model, or what it answers on this program. -/
/- One operation: what the machine does, what is told of it. -/
import Derived.Test.YtkflapebfmcmaaaGreatSvM
import Derived.Laws.Cells
import Derived.Laws.CopyRow
import Derived.Laws.Small
namespace Go.Sv
open Go Go.RowKit

def evalT (tm : Array Value) : Operand → Value
  | .tmp t => tm.getD t undef
  | .const v => v
  | .global g => .pointer (some ⟨g, 0, none⟩)
  | .func f => .func (.func f) #[] #[]

section
variable {w0 : World} {g : Gh} {S : St} {w : World} {k : K}

theorem ev_sound {tm : Array Value} {ρ : Nat → SV} (h : RT g w tm ρ) (x : Operand) : R g w (evalT tm x) (ev ρ x) := by
  cases x with
  | tmp t => exact h t
  | const v => exact .v v
  | global i => exact .top _
  | func f => exact .func f [] [] #[] #[] rfl (by simp) rfl (by simp)

theorem flat_one {v : Value} (h : flatV v = true) : v.oneCell' = true := by cases v <;> simp_all [flatV, Value.oneCell']
theorem flat_cells {v : Value} (h : flatV v = true) : v.cells = #[v] := by cases v <;> simp_all [flatV, Value.cells]
theorem single_flat {u : Value} {x : SV} (h : R g w u x) (hs : single x = true) : flatV u = true := by
  cases h <;> simp_all [single, flatV]

theorem add_none (B o i : Nat) : (⟨B, o, none⟩ : Addr).add i = ⟨B, o + i, none⟩ := by unfold Addr.add; split <;> simp_all

theorem cells_sound {u : Value} {x : SV} {cs : List SV} (h : R g w u x) (hc : cellsOf x = some cs) : u.cells.size = cs.length ∧ Cs g w u.cells cs := by
  have one : single x = true → cs = [x] → u.cells.size = cs.length ∧ Cs g w u.cells cs := by
    intro hs hx
    have hf := single_flat h hs
    rw [flat_cells hf, hx]
    refine ⟨rfl, fun i c hi => ?_⟩
    cases i with
    | zero => simp at hi; subst hi; simpa using ⟨h, hf⟩
    | succ i => simp at hi
  cases h with
  | agg cs1 cs' h1 h2 h3 =>
    simp only [cellsOf, Option.some.injEq] at hc
    subst hc
    exact ⟨h1, fun i c hi => ⟨h3 i c hi, h2 i c hi⟩⟩
  | _ =>
    simp only [cellsOf] at hc
    split at hc
    · rename_i hs
      exact one hs (by simpa using hc.symm)
    · cases hc

theorem Cs.all_flat {a : Array Value} {cs : List SV} (h : Cs g w a cs) (hn : a.size = cs.length) : ∀ v ∈ a.toList, flatV v = true := by
  intro v hv
  obtain ⟨i, hi, hv⟩ := List.getElem_of_mem hv
  have hi' : i < cs.length := by simpa [hn] using hi
  have := (h i cs[i] (List.getElem?_eq_getElem hi')).2
  have hg : a.getD i undef = v := by
    have : i < a.size := by omega
    simp [Array.getD, this]; simpa using hv
  rwa [hg] at this

theorem rs_of_map {tm : Array Value} {ρ : Nat → SV} (h : RT g w tm ρ) (l : List Operand) : Rs g w (l.map (evalT tm)) (l.map (ev ρ)) := by
  refine ⟨by simp, fun i c hi => ?_⟩
  simp only [List.getElem?_map, Option.map_eq_some_iff] at hi
  obtain ⟨x, hx, rfl⟩ := hi
  simp only [List.getD, List.getElem?_map, hx, Option.map_some, Option.getD_some]
  exact ev_sound h x

theorem size_some {t : TypeId} {n : Nat} (h : size? k t = some n) : ∃ i, k.P.info? t = some i ∧ i.size = n := by
  simpa [size?] using h
theorem run_size {t : TypeId} {n : Nat} (h : size? k t = some n) (w : World) : (sizeOf t).run k.P w = .ok n w := by
  obtain ⟨i, hi, rfl⟩ := size_some h
  simp [sizeOf, typeInfo, hi]
theorem run_agg {t : TypeId} {b : Bool} (h : agg? k t = some b) (w : World) : (isAgg t).run k.P w = .ok b w := by
  unfold agg? at h
  unfold isAgg
  cases hu : k.P.underlying t with
  | none => simp [hu] at h
  | some d => cases d <;> simp_all [run_underlying hu]
theorem elem_some {t e : TypeId} (h : elem? k t = some e) : k.P.underlying t = some (.slice e) := by
  unfold elem? at h
  split at h
  · rename_i hu; rw [hu]; simp at h; rw [h]
  · cases h
theorem zero_some {t : TypeId} {z : List SV} (h : zero? k t = some z) : ∃ i v, k.P.info? t = some i ∧ i.zero = some v ∧ z = v.cells.toList.map .v ∧ ∀ c ∈ v.cells.toList, flatV c = true := by
  unfold zero? at h
  cases hi : k.P.info? t with
  | none => simp [hi] at h
  | some i => cases hz : i.zero with
    | none => simp [hi, hz] at h
    | some v =>
      simp only [hi, Option.bind_some, hz] at h
      split at h
      · rename_i hf
        exact ⟨i, v, rfl, hz, by simpa using h.symm, fun c hc => List.all_eq_true.1 hf c hc⟩
      · cases h
theorem run_zero {t : TypeId} {i : TypeInfo} {v : Value} (h : k.P.info? t = some i) (hz : i.zero = some v) (w : World) : (zeroValue t).run k.P w = .ok v w := by
  simp [zeroValue, typeInfo, h, hz]

/-! #### memory that is read -/
theorem row_load {B off : Nat} {a : Array Value} {T : TypeId} {fz : Nat × Nat} (hB : w.heap[B]? = some (.cells a T fz)) (i : Nat) (hi : off + i < a.size) : w.cell? ((⟨B, off, none⟩ : Addr).add i) = some (a.getD (off + i) undef) := by
  rw [add_none, cell_of_row w B (off + i) a T fz hB]
  simp [Array.getD, hi]

theorem load_of {t : TypeId} {ag : Bool} {sz : Nat} {a : Addr} {x : SV} {cs : List SV} {f : Nat → Value} (hag : agg? k t = some ag) (hsz : size? k t = some sz)
    (hc : ∀ i, i < cs.length → w.cell? (a.add i) = some (f i) ∧ flatV (f i) = true) (hR : ∀ i c, cs[i]? = some c → R g w (f i) c) (hx : takeVal ag sz cs = some x) :
    ∃ u, (loadVar t a).run k.P w = .ok u w ∧ R g w u x := by
  unfold takeVal at hx
  cases ag with
  | true =>
    simp only [if_true] at hx
    split at hx
    · rename_i hl
      simp only [Option.some.injEq] at hx
      subst hx
      refine ⟨.agg ((List.range sz).map f).toArray, ?_, ?_⟩
      · simp [loadVar, run_agg hag, run_size hsz, run_loadCells w a sz f (fun j hj => (hc j (by omega)).1)]
      · have key : ∀ i c, (cs.take sz)[i]? = some c → i < sz ∧ cs[i]? = some c ∧ ((List.range sz).map f).toArray.getD i undef = f i := by
          intro i c hi
          rw [List.getElem?_take] at hi
          split at hi
          · rename_i h; exact ⟨h, hi, by simp [Array.getD, h]⟩
          · cases hi
        refine .agg _ _ (by simp; omega) (fun i c hi => ?_) (fun i c hi => ?_)
        · obtain ⟨h1, h2, h3⟩ := key i c hi
          rw [h3]; exact (hc i (by omega)).2
        · obtain ⟨h1, h2, h3⟩ := key i c hi
          rw [h3]; exact hR i c h2
    · cases hx
  | false =>
    simp only [Bool.false_eq_true, if_false] at hx
    cases cs with
    | nil => cases hx
    | cons c r =>
      simp only [List.head?_cons, Option.some.injEq] at hx
      subst hx
      refine ⟨f 0, ?_, hR 0 c rfl⟩
      have h0 := (hc 0 (by simp)).1
      have ha : a.add 0 = a := by simp [Addr.add]
      rw [ha] at h0
      simp [loadVar, run_agg hag, h0]

theorem obj_cells {o : SObj} {b : Nat} {cs : List SV} (h : ObjR g w b o) (hc : objCells o = some cs) : ∃ a T, w.heap[g.box b]? = some (.cells a T (0, 0)) ∧ cs.length ≤ a.size ∧ Cs g w a cs := by
  cases o <;> simp [objCells] at hc
  · subst hc; obtain ⟨a, T, h1, h2, h3, _⟩ := h; exact ⟨a, T, h1, by omega, h3⟩
  · subst hc; obtain ⟨a, T, h1, h2, h3, h4, _⟩ := h; exact ⟨a, T, h1, h3, h4⟩

theorem load_sound (hG : G w0 g S w) {t : TypeId} {u : Value} {a x : SV} (ha : R g w u a) (h : loadE k t a S = some x) : ∃ v, (Instr.loadAt t u).run k.P w = .ok v w ∧ R g w v x := by
  simp only [loadE, Option.bind_eq_some_iff] at h
  obtain ⟨ag, hag, sz, hsz, h⟩ := h
  cases ha with
  | ptr b off hb =>
    simp only [Option.bind_eq_some_iff] at h
    obtain ⟨cs, hcs, h⟩ := h
    obtain ⟨arr, T, h1, h2, h3⟩ := obj_cells (hG.obj b hb) hcs
    have key : ∀ i, i < (cs.drop off).length → off + i < cs.length := fun i hi => by simp at hi; omega
    obtain ⟨v, hv, hR⟩ := load_of (k := k) (a := ⟨g.box b, off, none⟩) (cs := cs.drop off) (f := fun i => arr.getD (off + i) undef) hag hsz
      (fun i hi => ⟨row_load h1 i (by have := key i hi; omega), by
        have := key i hi
        exact (h3 (off + i) _ (List.getElem?_eq_getElem this)).2⟩)
      (fun i c hi => (h3 (off + i) c (by rwa [List.getElem?_drop] at hi)).1) h
    exact ⟨v, by simpa [Instr.loadAt, Instr.sureAddr] using hv, hR⟩
  | cp B o cs f hc hR =>
    obtain ⟨v, hv, hR⟩ := load_of (k := k) (a := ⟨B, o, none⟩) (cs := cs) (f := f) hag hsz (fun i hi => by rw [add_none]; exact ⟨(hc i hi).2.1, (hc i hi).2.2⟩) hR h
    exact ⟨v, by simpa [Instr.loadAt, Instr.sureAddr] using hv, hR⟩
  | _ => cases h

/-! #### memory that is written -/
theorem splice_get (cs ys : List SV) (off i : Nat) (h : off + ys.length ≤ cs.length) : (splice cs off ys)[i]? = if i < off then cs[i]? else if i < off + ys.length then ys[i - off]? else cs[i]? := by
  unfold splice
  rw [List.append_assoc]
  by_cases h1 : i < off
  · rw [if_pos h1, List.getElem?_append_left (by simp; omega), List.getElem?_take, if_pos h1]
  · rw [if_neg h1, List.getElem?_append_right (by simp; omega)]
    simp only [List.length_take, Nat.min_eq_left (show off ≤ cs.length by omega)]
    by_cases h2 : i < off + ys.length
    · rw [if_pos h2, List.getElem?_append_left (by omega)]
    · rw [if_neg h2, List.getElem?_append_right (by omega), List.getElem?_drop]
      congr 1; omega
theorem splice_length (cs ys : List SV) (off : Nat) (h : off + ys.length ≤ cs.length) : (splice cs off ys).length = cs.length := by
  simp [splice]; omega

/-- The row behind a store. -/
def rowPut (a : Array Value) (off : Nat) (vs : List Value) : Array Value := (a.toList.take off ++ vs ++ a.toList.drop (off + vs.length)).toArray
theorem rowPut_size (a : Array Value) (off : Nat) (vs : List Value) (h : off + vs.length ≤ a.size) : (rowPut a off vs).size = a.size := by
  simp [rowPut]; omega
theorem rowPut_get (a : Array Value) (off : Nat) (vs : List Value) (i : Nat) (h : off + vs.length ≤ a.size) : (rowPut a off vs).getD i undef = if i < off then a.getD i undef else if i < off + vs.length then vs.getD (i - off) undef else a.getD i undef := by
  have e : ∀ (b : Array Value) (j : Nat), b.getD j undef = b.toList.getD j undef := fun b j => by
    by_cases hj : j < b.size <;> simp [Array.getD, hj, List.getD]
  rw [e, e]
  simp only [rowPut, List.getD]
  rw [List.append_assoc]
  by_cases h1 : i < off
  · rw [if_pos h1, List.getElem?_append_left (by simp; omega), List.getElem?_take, if_pos h1]
  · rw [if_neg h1, List.getElem?_append_right (by simp; omega)]
    simp only [List.length_take, Array.length_toList, Nat.min_eq_left (show off ≤ a.size by omega)]
    by_cases h2 : i < off + vs.length
    · rw [if_pos h2, List.getElem?_append_left (by omega)]
    · rw [if_neg h2, List.getElem?_append_right (by omega), List.getElem?_drop]
      congr 2; omega

theorem Cs.put {a b : Array Value} {cs ys : List SV} {off : Nat} (h : Cs g w a cs) (h' : Cs g w b ys) (hb : b.size = ys.length) (hl : off + ys.length ≤ cs.length) (ha : cs.length ≤ a.size) : Cs g w (rowPut a off b.toList) (splice cs off ys) := by
  intro i c hi
  have hlen : b.toList.length = ys.length := by simp [hb]
  rw [rowPut_get a off b.toList i (by omega)]
  rw [splice_get cs ys off i hl] at hi
  by_cases h1 : i < off
  · rw [if_pos h1] at hi ⊢; exact h i c hi
  · rw [if_neg h1] at hi ⊢
    rw [hlen]
    by_cases h2 : i < off + ys.length
    · rw [if_pos h2] at hi ⊢
      have := h' (i - off) c hi
      have e : b.toList.getD (i - off) undef = b.getD (i - off) undef := by
        by_cases hj : i - off < b.size <;> simp [Array.getD, hj, List.getD]
      rw [e]; exact this
    · rw [if_neg h2] at hi ⊢; exact h i c hi

theorem only_setRow (w : World) (B : Nat) (cs : Array Value) : Only w (w.setRow B cs) B := ⟨rfl, rfl, rfl, by simp, fun i _ hi => setRow_other w B i cs hi⟩

theorem run_store_row {t : TypeId} {sz B off : Nat} {a : Array Value} {T : TypeId} {v : Value} (hsz : size? k t = some sz) (hB : w.heap[B]? = some (.cells a T (0, 0))) (hv : v.cells.size = sz) (hf : ∀ c ∈ v.cells.toList, flatV c = true) (hl : off + sz ≤ a.size) :
    (Instr.storeAt t (.pointer (some ⟨B, off, none⟩)) v).run k.P w = .ok () (w.setRow B (rowPut a off v.cells.toList)) := by
  have h := run_storeCells_at k.P B off T v.cells.toList 0 a w hB (by simp [hv]; omega) (fun c hc => flat_one (hf c hc))
  simp only [Nat.add_zero] at h
  simp [Instr.storeAt, Instr.sureAddr, storeVar, run_size hsz, hv, h, rowPut]

theorem store_sound (hG : G w0 g S w) {t : TypeId} {u v : Value} {a x : SV} {S' : St} (ha : R g w u a) (hx : R g w v x) (h : storeE k t a x S = some S') : ∃ w', (Instr.storeAt t u v).run k.P w = .ok () w' ∧ G w0 g S' w' ∧ Tr S g w S' g w' := by
  simp only [storeE, Option.bind_eq_some_iff] at h
  obtain ⟨sz, hsz, ys, hys, h⟩ := h
  obtain ⟨hn, hCs⟩ := cells_sound hx hys
  have hf := hCs.all_flat hn
  cases ha with
  | ptr b off hb =>
    simp only [] at h
    split at h
    · rename_i hc
      obtain ⟨hfl, hlen⟩ := hc
      split at h
      · rename_i cs hget
        split at h
        · rename_i hle
          simp only [Option.some.injEq] at h
          subst h
          have hO := hG.obj b hb
          rw [hget] at hO
          obtain ⟨arr, T, h1, h2, h3, h4⟩ := hO
          have hrun := run_store_row (k := k) (v := v) hsz h1 (by omega) hf (off := off) (by omega)
          have hrow := setRow_heap w (g.box b) arr (rowPut arr off v.cells.toList) T (0, 0) h1
          have := hG.put (w' := w.setRow (g.box b) (rowPut arr off v.cells.toList)) hb (by rw [hget]; trivial) hfl (only_setRow _ _ _) h4 (.cells (splice cs off ys)) ?_
          · exact ⟨_, hrun, this⟩
          · have hext : Ext g w g (w.setRow (g.box b) (rowPut arr off v.cells.toList)) := by
              refine ⟨rfl, Nat.le_refl _, fun _ _ => rfl, fun _ _ => rfl, fun _ => Nat.le_refl _, fun X i hX => cell_setRow_other w (g.box b) _ _ ?_⟩
              intro e
              have e : X = g.box b := e
              subst e
              have := hG.lo b hb (by rw [hget]; trivial)
              omega
            refine ⟨_, T, hrow, ?_, ?_, h4⟩
            · rw [rowPut_size _ _ _ (by simp; omega), splice_length _ _ _ hle, h2]
            · exact (h3.put hCs hn hle (by omega)).ext hext
        · cases h
      · rename_i s cs hget
        split at h
        · rename_i hle
          simp only [Option.some.injEq] at h
          subst h
          have hO := hG.obj b hb
          rw [hget] at hO
          obtain ⟨arr, T, h1, h2, h3, h5, h4⟩ := hO
          have hrun := run_store_row (k := k) (v := v) hsz h1 (by omega) hf (off := off) (by omega)
          have hrow := setRow_heap w (g.box b) arr (rowPut arr off v.cells.toList) T (0, 0) h1
          have := hG.put (w' := w.setRow (g.box b) (rowPut arr off v.cells.toList)) hb (by rw [hget]; trivial) hfl (only_setRow _ _ _) h4 (.arr s (splice cs off ys)) ?_
          · exact ⟨_, hrun, this⟩
          · have hext : Ext g w g (w.setRow (g.box b) (rowPut arr off v.cells.toList)) := by
              refine ⟨rfl, Nat.le_refl _, fun _ _ => rfl, fun _ _ => rfl, fun _ => Nat.le_refl _, fun X i hX => cell_setRow_other w (g.box b) _ _ ?_⟩
              intro e
              have e : X = g.box b := e
              subst e
              have := hG.lo b hb (by rw [hget]; trivial)
              omega
            have hz : (rowPut arr off v.cells.toList).size = arr.size := rowPut_size _ _ _ (by simp; omega)
            refine ⟨_, T, hrow, by rw [hz, h2], by rw [hz, splice_length _ _ _ hle]; exact h3, ?_, h4⟩
            exact (h5.put hCs hn hle h3).ext hext
        · cases h
      · cases h
    · cases h
  | _ => cases h
end
end Go.Sv
