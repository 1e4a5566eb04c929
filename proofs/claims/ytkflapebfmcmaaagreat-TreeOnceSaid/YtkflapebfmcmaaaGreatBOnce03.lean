/- Parts of the proofs of this seat's laws. -/
import Derived.Test.YtkflapebfmcmaaaGreatBOnce02
section
set_option linter.all false
/- append, whole. -/
namespace Go.Sv
open Go Go.RowKit
section
variable {w0 : World} {g : Gh} {S : St} {w : World} {k : K}

theorem bytes_some {t : TypeId} {n : Nat} (h : bytes? k t = some n) : ∃ i, k.P.info? t = some i ∧ i.bytes = n := by simpa [bytes?] using h

/-- A slice that grows into a new array. -/
theorem grown_sound (hG : G w0 g S w) {t t2 ty e e2 : TypeId} {i0 : TypeInfo} {z : Value} {base : Option Addr} {n cap m : Nat} {u : Value} {A : Option Addr} {c : Nat} {old new : Array Value} {cs ys : List SV} {sz : Nat}
    (hu : k.P.underlying t = some (.slice e)) (hu2 : k.P.underlying t2 = some (.slice e2)) (hi : k.P.info? e = some i0) (hz : i0.zero = some z) (hzs : z.cells.size = sz) (hsz : i0.size = sz) (hx : u = .slice A m c) (hby : i0.bytes ≠ 0)
    (hroom : (n + m) * i0.bytes ≤ room) (hcap : cap < n + m)
    (hold : ∀ w1 : World, (∀ a, w1.cell? a = w.cell? a) → (Builtin.firstCells i0.size n (.slice base n cap)).run k.P w1 = .ok old w1)
    (hnew : ∀ w1 : World, (∀ a, w1.cell? a = w.cell? a) → (Builtin.firstCells i0.size m u).run k.P w1 = .ok new w1)
    (ho : old.size = cs.length) (hn : new.size = ys.length) (hco : cs.length = n * sz) (hcy : ys.length = m * sz) (hCo : Cs g w old cs) (hCn : Cs g w new ys) (hb : Bool) :
    ∃ r w' g', (Builtin.append_ #[t, t2] ty #[.slice base n cap, u]).run k.P w = .ok r w' ∧ R g' w' r (if hb then .arr S.next (n + m) else .sl (some S.next) (n + m) (cs ++ ys)) ∧
      G w0 g' (S.alloc (if hb then .arr sz (cs ++ ys) else .own sz (cs ++ ys).length)) w' ∧ Tr S g w (S.alloc (if hb then .arr sz (cs ++ ys) else .own sz (cs ++ ys).length)) g' w' := by
  obtain ⟨nc, hnc, hrun⟩ := run_grow (k := k) (ty := ty) hu hu2 hi hz hx hby hroom hcap hold hnew
  obtain ⟨hGd, hTd⟩ := hG.drew
  have hC : Cs g w.drew (old ++ new ++ Builtin.zeroCells z.cells (nc - (n + m))) (cs ++ ys) := ((hCo.append ho hCn).more (by simp; omega)).ext hTd.ext
  obtain ⟨g', h1, h2, h3⟩ := new_slice hGd e (n + m) nc sz hC (by simp; omega) (by
    simp only [Array.size_append, zc_size, ho, hn, hco, hcy, hzs]
    rw [← Nat.add_mul, ← Nat.add_mul]
    congr 1; omega) hnc hb
  have hfl : S.floor ≤ g.n := by rw [hG.n]; exact hG.floor
  refine ⟨_, _, g', hrun, ?_, h2, hTd.trans h3 hfl⟩
  simpa using h1

theorem old_cells {B n c : Nat} {cs : List SV} {a : Array Value} {T : TypeId} {sz : Nat} (h1 : w.heap[B]? = some (.cells a T (0, 0))) (hl : cs.length ≤ a.size) (hco : cs.length = n * sz) (hC : Cs g w a cs) :
    ∃ old : Array Value, old.size = cs.length ∧ Cs g w old cs ∧ ∀ w1 : World, (∀ a, w1.cell? a = w.cell? a) → (Builtin.firstCells sz n (.slice (some ⟨B, 0, none⟩) n c)).run k.P w1 = .ok old w1 := by
  refine ⟨((List.range cs.length).map fun i => a.getD i undef).toArray, by simp, fun i x hi => ?_, fun w1 hw => ?_⟩
  · have hlt : i < cs.length := (List.getElem?_eq_some_iff.1 hi).1
    have e : ((List.range cs.length).map fun i => a.getD i undef).toArray.getD i undef = a.getD i undef := by simp [Array.getD, hlt]
    rw [e]; exact hC i x hi
  · have := run_loadCells (P := k.P) w1 ⟨B, 0, none⟩ cs.length (fun i => a.getD i undef) (fun j hj => by
      rw [hw]
      have := row_load (w := w) (B := B) (off := 0) h1 j (by omega)
      simpa using this)
    simpa [Builtin.firstCells, hco] using this

theorem rowPut_cs {a b : Array Value} {cs ys : List SV} (h : Cs g w a cs) (h' : Cs g w b ys) (hb : b.size = ys.length) (ha : cs.length + ys.length ≤ a.size) : Cs g w (rowPut a cs.length b.toList) (cs ++ ys) := by
  intro i c hi
  have hlen : b.toList.length = ys.length := by simp [hb]
  rw [rowPut_get a cs.length b.toList i (by omega), hlen]
  by_cases h1 : i < cs.length
  · rw [List.getElem?_append_left h1] at hi
    rw [if_pos h1]; exact h i c hi
  · rw [List.getElem?_append_right (by omega)] at hi
    have h2 : i - cs.length < ys.length := (List.getElem?_eq_some_iff.1 hi).1
    rw [if_neg h1, if_pos (by omega), ← getD_list]
    exact h' _ c hi

theorem run_none {t t2 ty e e2 : TypeId} {i0 : TypeInfo} {base : Option Addr} {n cp : Nat} {u : Value} {A : Option Addr} {c : Nat} (hu : k.P.underlying t = some (.slice e)) (hu2 : k.P.underlying t2 = some (.slice e2)) (hi : k.P.info? e = some i0) (hx : u = .slice A 0 c) (hn : n ≤ cp)
    (h0 : (Builtin.firstCells i0.size 0 u).run k.P w = .ok #[] w) : (Builtin.append_ #[t, t2] ty #[.slice base n cp, u]).run k.P w = .ok (.slice base n cp) w := by
  have hszr : ∀ w : World, (sizeOf e).run k.P w = .ok i0.size w := fun w => by simp [sizeOf, typeInfo, hi]
  subst hx
  cases base with
  | none => simp [Builtin.append_, run_underlying hu, run_underlying hu2, Builtin.lenOf, hn, hszr, h0]
  | some a => simp [Builtin.append_, run_underlying hu, run_underlying hu2, Builtin.lenOf, hn, hszr, h0, storeCells]

set_option maxHeartbeats 1000000 in
theorem append_sound (hG : G w0 g S w) {t t2 ty : TypeId} {us ux : Value} {s x y : SV} {S' : St} (hs : R g w us s) (hx : R g w ux x) (hu2 : (elem? k t2).isSome = true) (h : appendE k t s x S = some (y, S')) :
    ∃ r w' g', (Builtin.append_ #[t, t2] ty #[us, ux]).run k.P w = .ok r w' ∧ R g' w' r y ∧ G w0 g' S' w' ∧ Tr S g w S' g' w' := by
  obtain ⟨e2, he2⟩ := Option.isSome_iff_exists.1 hu2
  have hu2 := elem_some he2
  simp only [appendE, Option.bind_eq_some_iff] at h
  obtain ⟨e, he, sz, hsz, by_, hby, z, hz, ⟨m, ys⟩, hsrc, h⟩ := h
  have hu := elem_some he
  obtain ⟨i0, hi, rfl⟩ := size_some hsz
  obtain ⟨i1, hi1, rfl⟩ := bytes_some hby
  obtain rfl : i0 = i1 := by rw [hi] at hi1; injection hi1
  obtain ⟨i2, zv, hi2, hzv, rfl, hzf⟩ := zero_some hz
  obtain rfl : i0 = i2 := by rw [hi] at hi2; injection hi2
  obtain ⟨A, c, new, hux, hns, hyl, hCn, hnew⟩ := src_sound (k := k) hG hx hsrc
  simp only [] at h
  split at h
  · cases h
  rename_i hcond
  simp only [not_or] at hcond
  obtain ⟨hs0, hb0, hzl⟩ := hcond
  have hzs : zv.cells.size = i0.size := by
    have := Decidable.of_not_not hzl
    simpa using this
  have hfl : S.floor ≤ g.n := by rw [hG.n]; exact hG.floor
  split at h
  · rename_i hm
    subst hm
    have hn0 := hnew w (fun _ => rfl)
    have hne : new = #[] := Array.eq_empty_of_size_eq_zero (by simp [hns, hyl])
    subst hne
    have hsh : ∃ base n cp, us = .slice base n cp ∧ n ≤ cp ∧ (y = s ∧ S' = S) := by
      split at h
      · simp only [Option.some.injEq, Prod.mk.injEq] at h
        cases hs; exact ⟨none, 0, 0, rfl, Nat.le_refl _, h.1.symm, h.2.symm⟩
      · simp only [Option.some.injEq, Prod.mk.injEq] at h
        cases hs <;> exact ⟨_, 0, 0, rfl, Nat.le_refl _, h.1.symm, h.2.symm⟩
      · simp only [Option.some.injEq, Prod.mk.injEq] at h
        cases hs with
        | sl B o n1 c1 cs1 f h1 h2 h3 => exact ⟨_, _, _, rfl, h3, h.1.symm, h.2.symm⟩
        | own b1 n1 cs1 f h0 h1 h2 h3 => exact ⟨_, _, _, rfl, h3, h.1.symm, h.2.symm⟩
        | nil => exact ⟨none, 0, 0, rfl, Nat.le_refl _, h.1.symm, h.2.symm⟩
        | slz a c => exact ⟨_, _, _, rfl, Nat.zero_le _, h.1.symm, h.2.symm⟩
      · simp only [Option.some.injEq, Prod.mk.injEq] at h
        cases hs with
        | arr b1 n1 h0 h1 => exact ⟨_, _, _, rfl, h1, h.1.symm, h.2.symm⟩
      · cases h
    obtain ⟨base, n1, cp, rfl, hle, rfl, rfl⟩ := hsh
    exact ⟨.slice base n1 cp, w, g, run_none hu hu2 hi hux hle hn0, hs, hG, Tr.refl ..⟩
  rename_i hm
  have nilCase : us = .slice none 0 0 → (if m * i0.bytes ≤ room then if k.inBox e = 1 then some (SV.arr S.next m, S.alloc (SObj.arr i0.size ys)) else some (SV.sl (some S.next) m ys, S.alloc (SObj.own i0.size ys.length)) else none) = some (y, S') → ∃ r w' g', (Builtin.append_ #[t, t2] ty #[us, ux]).run k.P w = .ok r w' ∧ R g' w' r y ∧ G w0 g' S' w' ∧ Tr S g w S' g' w' := by
    rintro rfl h
    split at h
    · rename_i hroom
      have key := grown_sound (k := k) (ty := ty) (n := 0) (cap := 0) (base := none) (old := #[]) (cs := []) (sz := i0.size) hG hu hu2 hi hzv hzs rfl hux hb0 (by simpa using hroom) (by omega) (fun w1 _ => by simp [Builtin.firstCells]) hnew rfl hns (by simp) hyl (fun i c hi => by simp at hi) hCn
      split at h
      · rename_i hbx
        simp only [Option.some.injEq, Prod.mk.injEq] at h
        obtain ⟨rfl, rfl⟩ := h
        obtain ⟨r, w', g', h1, h2, h3, h4⟩ := key true
        exact ⟨r, w', g', h1, by simpa using h2, by simpa using h3, by simpa using h4⟩
      · rename_i hbx
        simp only [Option.some.injEq, Prod.mk.injEq] at h
        obtain ⟨rfl, rfl⟩ := h
        obtain ⟨r, w', g', h1, h2, h3, h4⟩ := key false
        exact ⟨r, w', g', h1, by simpa using h2, by simpa using h3, by simpa using h4⟩
    · cases h
  split at h
  · -- a nil slice
    cases hs
    split at h
    · rename_i hroom
      have key := grown_sound (k := k) (ty := ty) (n := 0) (cap := 0) (base := none) (old := #[]) (cs := []) (sz := i0.size) hG hu hu2 hi hzv hzs rfl hux hb0 (by simpa using hroom) (by omega) (fun w1 _ => by simp [Builtin.firstCells]) hnew rfl hns (by simp) hyl (fun i c hi => by simp at hi) hCn
      split at h
      · rename_i hbx
        simp only [Option.some.injEq, Prod.mk.injEq] at h
        obtain ⟨rfl, rfl⟩ := h
        obtain ⟨r, w', g', h1, h2, h3, h4⟩ := key true
        exact ⟨r, w', g', h1, by simpa using h2, by simpa using h3, by simpa using h4⟩
      · rename_i hbx
        simp only [Option.some.injEq, Prod.mk.injEq] at h
        obtain ⟨rfl, rfl⟩ := h
        obtain ⟨r, w', g', h1, h2, h3, h4⟩ := key false
        exact ⟨r, w', g', h1, by simpa using h2, by simpa using h3, by simpa using h4⟩
    · cases h
  · -- a slice without room
    have hus : us = .slice none 0 0 ∨ ∃ B o, us = .slice (some ⟨B, o, none⟩) 0 0 := by
      cases hs with
      | emp B o => exact .inr ⟨B, o, rfl⟩
      | nil0 => exact .inl rfl
    rcases hus with hus | ⟨B, o, rfl⟩
    · exact nilCase hus h
    split at h
    · rename_i hroom
      have key := grown_sound (k := k) (ty := ty) (n := 0) (cap := 0) (base := some ⟨B, o, none⟩) (old := #[]) (cs := []) (sz := i0.size) hG hu hu2 hi hzv hzs rfl hux hb0 (by simpa using hroom) (by omega) (fun w1 _ => by
        have := run_loadCells (P := k.P) w1 ⟨B, o, none⟩ 0 (fun _ => undef) (fun j hj => by omega)
        simpa [Builtin.firstCells] using this) hnew rfl hns (by simp) hyl (fun i c hi => by simp at hi) hCn
      split at h
      · rename_i hbx
        simp only [Option.some.injEq, Prod.mk.injEq] at h
        obtain ⟨rfl, rfl⟩ := h
        obtain ⟨r, w', g', h1, h2, h3, h4⟩ := key true
        exact ⟨r, w', g', h1, by simpa using h2, by simpa using h3, by simpa using h4⟩
      · rename_i hbx
        simp only [Option.some.injEq, Prod.mk.injEq] at h
        obtain ⟨rfl, rfl⟩ := h
        obtain ⟨r, w', g', h1, h2, h3, h4⟩ := key false
        exact ⟨r, w', g', h1, by simpa using h2, by simpa using h3, by simpa using h4⟩
    · cases h
  · -- a slice of its own
    rename_i b n cs
    split at h
    · rename_i sz' len hget
      split at h
      · rename_i hc
        obtain ⟨hf, rfl, hcl, hcn, hroom, hbx⟩ := hc
        simp only [Option.some.injEq, Prod.mk.injEq] at h
        obtain ⟨rfl, rfl⟩ := h
        obtain ⟨hb, rfl, hnc, huse, a, T, ha, has, hla, hCa⟩ := own_facts hG hs hget hcl
        obtain ⟨hG1, hT1⟩ := hG.kill hf
        by_cases hfit : n + m ≤ g.cap b
        · -- in place
          have hroomy : cs.length + ys.length ≤ a.size := by
            rw [hcn, hyl, has, ← Nat.add_mul]; exact Nat.mul_le_mul_right _ hfit
          have hrun := run_fits (k := k) (ty := ty) (c := c) hu hu2 hi hux hfit ha (hnew w (fun _ => rfl)) (hCn.all_flat hns) (by rw [← hcn, hns]; exact hroomy)
          have hrow := setRow_heap w (g.box b) a (rowPut a (n * i0.size) new.toList) T (0, 0) ha
          have hlo := hG.lo b hb (by rw [hget]; trivial)
          have hlt := live_size (hG.obj b hb) (by rw [hget]; trivial)
          have hcells : ∀ o, o < g.use (g.box b) → (w.setRow (g.box b) (rowPut a (n * i0.size) new.toList)).cell? ⟨g.box b, o, none⟩ = w.cell? ⟨g.box b, o, none⟩ := by
            intro o ho
            rw [cell_setRow_same w _ o a _ T (0, 0) ha, cell_of_row w _ o a T (0, 0) ha]
            have h1 : o < a.size := by omega
            have h2 : o < (rowPut a (n * i0.size) new.toList).size := by rw [rowPut_size _ _ _ (by simp; omega)]; exact h1
            have h3 := rowPut_get a (n * i0.size) new.toList o (by simp; omega)
            rw [if_pos (by omega)] at h3
            rw [Array.getElem?_eq_getElem h2, Array.getElem?_eq_getElem h1]
            simp only [Array.getD, h1, h2, dif_pos] at h3
            exact congrArg some h3
          have hext : ∀ u, cs.length ≤ u → Ext g w (g.add (g.box b) (g.cap b) u) (w.setRow (g.box b) (rowPut a (n * i0.size) new.toList)) := by
            intro u hu
            refine ⟨rfl, Nat.le_succ _, fun b' hb' => add_box_old g _ _ _ hb', fun b' hb' => add_cap_old g _ _ _ hb', fun X => ?_, fun X i hX => ?_⟩
            · show g.use X ≤ if X = g.box b then u else g.use X
              split
              · subst X; omega
              · exact Nat.le_refl _
            · by_cases hXb : X = g.box b
              · subst hXb
                exact hcells i hX
              · exact cell_setRow_other w _ _ _ hXb
          have hCnew : ∀ u, cs.length ≤ u → Cs (g.add (g.box b) (g.cap b) u) (w.setRow (g.box b) (rowPut a (n * i0.size) new.toList)) (rowPut a (n * i0.size) new.toList) (cs ++ ys) := by
            intro u hu
            have := rowPut_cs hCa hCn hns hroomy
            rw [hcn] at this
            exact this.ext (hext u hu)
          have hsz' : (rowPut a (n * i0.size) new.toList).size = a.size := rowPut_size _ _ _ (by simp; omega)
          have hadd := hG1.add (B := g.box b) (w' := w.setRow (g.box b) (rowPut a (n * i0.size) new.toList)) (only_setRow _ _ _) hlo (by simpa using hlt)
            (fun b' hb' hl' e => by
              by_cases hbb : b' = b
              · subst hbb; simp [St.put, SObj.live] at hl'
              · have hg' : (S.put b .dead).get b' = S.get b' := by simp [St.put, hbb]
                rw [hg'] at hl'
                exact hbb (hG.ne b' b hb' hb hl' (by rw [hget]; trivial) e))
            (g.cap b) (cs.length + ys.length) (by omega) hcells (.own i0.size (cs.length + ys.length))
            ⟨_, T, by rw [add_box]; exact hrow, by rw [add_cap, hsz', has], by rw [hsz']; exact hroomy, by rw [add_box, add_use]⟩
          obtain ⟨hG2, hT2⟩ := hadd
          refine ⟨_, _, _, hrun, ?_, hG2, hT1.trans hT2 hfl⟩
          have hCc := hCnew (cs.length + ys.length) (by omega)
          have hR := R.own (g := g.add (g.box b) (g.cap b) (cs.length + ys.length)) (w := w.setRow (g.box b) (rowPut a (n * i0.size) new.toList)) g.n (n + m) (cs ++ ys) (fun i => (rowPut a (n * i0.size) new.toList).getD i undef) (Nat.lt_succ_self g.n) ?_ (fun i x hi => (hCc i x hi).1) (by rw [add_cap]; exact hfit)
          · rw [add_box, add_cap, hG.n] at hR
            exact hR
          · intro i hi
            rw [add_box, add_use]
            have hi' : i < cs.length + ys.length := by simpa using hi
            refine ⟨by omega, ?_, (hCc i _ (List.getElem?_eq_getElem hi)).2⟩
            rw [Nat.zero_add, cell_setRow_same w _ i a _ T (0, 0) ha]
            have : i < (rowPut a (n * i0.size) new.toList).size := by rw [hsz']; omega
            simp [Array.getD, this]
        · -- a new array
          obtain ⟨old, ho, hCo, hold⟩ := old_cells (k := k) (c := g.cap b) (n := n) (sz := i0.size) ha (by omega) hcn hCa
          obtain ⟨r, w', g', h1, h2, h3, h4⟩ := grown_sound (k := k) (ty := ty) (sz := i0.size) (cs := cs) hG1 hu hu2 hi hzv hzs rfl hux hb0 hroom (by omega) hold hnew ho hns hcn hyl hCo hCn false
          refine ⟨r, w', g', h1, ?_, ?_, ?_⟩
          · simpa [St.put] using h2
          · simpa using h3
          · exact hT1.trans (by simpa using h4) hfl
      · cases h
    · cases h
  · -- a slice in a box
    rename_i b n
    split at h
    · rename_i sz' cs hget
      split at h
      · rename_i hc
        obtain ⟨hf, rfl, hcn, hroom, hbx⟩ := hc
        simp only [Option.some.injEq, Prod.mk.injEq] at h
        obtain ⟨rfl, rfl⟩ := h
        obtain ⟨hb, rfl, hnc, huse, a, T, ha, has, hla, hCa⟩ := arr_facts hG hs hget
        obtain ⟨hG1, hT1⟩ := hG.kill hf
        by_cases hfit : n + m ≤ g.cap b
        · have hroomy : cs.length + ys.length ≤ a.size := by
            rw [hcn, hyl, has, ← Nat.add_mul]; exact Nat.mul_le_mul_right _ hfit
          have hrun := run_fits (k := k) (ty := ty) (c := c) hu hu2 hi hux hfit ha (hnew w (fun _ => rfl)) (hCn.all_flat hns) (by rw [← hcn, hns]; exact hroomy)
          have hrow := setRow_heap w (g.box b) a (rowPut a (n * i0.size) new.toList) T (0, 0) ha
          have hlo := hG.lo b hb (by rw [hget]; trivial)
          have hlt := live_size (hG.obj b hb) (by rw [hget]; trivial)
          have hsz' : (rowPut a (n * i0.size) new.toList).size = a.size := rowPut_size _ _ _ (by simp; omega)
          have hext : Ext g w (g.add (g.box b) (g.cap b) 0) (w.setRow (g.box b) (rowPut a (n * i0.size) new.toList)) := by
            refine ⟨rfl, Nat.le_succ _, fun b' hb' => add_box_old g _ _ _ hb', fun b' hb' => add_cap_old g _ _ _ hb', fun X => ?_, fun X i hX => ?_⟩
            · show g.use X ≤ if X = g.box b then 0 else g.use X
              split
              · subst X; omega
              · exact Nat.le_refl _
            · have hXb : X ≠ g.box b := by intro e; subst e; omega
              exact cell_setRow_other w _ _ _ hXb
          have hCc : Cs (g.add (g.box b) (g.cap b) 0) (w.setRow (g.box b) (rowPut a (n * i0.size) new.toList)) (rowPut a (n * i0.size) new.toList) (cs ++ ys) := by
            have := rowPut_cs hCa hCn hns hroomy
            rw [hcn] at this
            exact this.ext hext
          have hadd := hG1.add (B := g.box b) (w' := w.setRow (g.box b) (rowPut a (n * i0.size) new.toList)) (only_setRow _ _ _) hlo (by simpa using hlt)
            (fun b' hb' hl' e => by
              by_cases hbb : b' = b
              · subst hbb; simp [St.put, SObj.live] at hl'
              · have hg' : (S.put b .dead).get b' = S.get b' := by simp [St.put, hbb]
                rw [hg'] at hl'
                exact hbb (hG.ne b' b hb' hb hl' (by rw [hget]; trivial) e))
            (g.cap b) 0 (by omega) (fun o ho => by omega) (.arr i0.size (cs ++ ys))
            ⟨_, T, by rw [add_box]; exact hrow, by rw [add_cap, hsz', has], by rw [hsz']; simpa using hroomy, hCc, by rw [add_box, add_use]⟩
          obtain ⟨hG2, hT2⟩ := hadd
          refine ⟨_, _, _, hrun, ?_, hG2, hT1.trans hT2 hfl⟩
          have hR := R.arr (g := g.add (g.box b) (g.cap b) 0) (w := w.setRow (g.box b) (rowPut a (n * i0.size) new.toList)) g.n (n + m) (Nat.lt_succ_self g.n) (by rw [add_cap]; exact hfit)
          rw [add_box, add_cap, hG.n] at hR
          exact hR
        · obtain ⟨old, ho, hCo, hold⟩ := old_cells (k := k) (c := g.cap b) (n := n) (sz := i0.size) ha (by omega) hcn hCa
          obtain ⟨r, w', g', h1, h2, h3, h4⟩ := grown_sound (k := k) (ty := ty) (sz := i0.size) (cs := cs) hG1 hu hu2 hi hzv hzs rfl hux hb0 hroom (by omega) hold hnew ho hns hcn hyl hCo hCn true
          refine ⟨r, w', g', h1, ?_, ?_, ?_⟩
          · simpa [St.put] using h2
          · simpa using h3
          · exact hT1.trans (by simpa using h4) hfl
      · cases h
    · cases h
  · cases h
end
end Go.Sv
end
