/- Parts of the proofs of this seat's laws. -/
import Derived.IntWalk
import Derived.Test.YtkflapebfmcmaaaGreatBOnce04
section
set_option linter.all false
/- One operation that is no call. -/
namespace Go.Sv
open Go Go.RowKit

/-- An operation comes to a value, or to nothing that is handed on. -/
def OpOK (P : Program) (s : Sem Next) (w : World) (Q : Value → World → Prop) : Prop :=
  ∃ w', (∃ u, s.run P w = .ok (.value u) w' ∧ Q u w') ∨ (s.run P w = .ok .skip w' ∧ Q undef w')

section
variable {w0 : World} {g : Gh} {S : St} {w : World} {k : K}

def Good (w0 : World) (S : St) (g : Gh) (w : World) (x : SV) (S' : St) (u : Value) (w' : World) : Prop := ∃ g', R g' w' u x ∧ G w0 g' S' w' ∧ Tr S g w S' g' w'

theorem good_same (hG : G w0 g S w) {u : Value} {x : SV} (h : R g w u x) : Good w0 S g w x S u w := ⟨g, h, hG, .refl ..⟩

theorem ok_value {s : Sem Next} {u : Value} {w' : World} {Q : Value → World → Prop} (h : s.run k.P w = .ok (.value u) w') (hq : Q u w') : OpOK k.P s w Q := ⟨w', .inl ⟨u, h, hq⟩⟩
theorem ok_skip {s : Sem Next} {w' : World} {Q : Value → World → Prop} (h : s.run k.P w = .ok .skip w') (hq : Q undef w') : OpOK k.P s w Q := ⟨w', .inr ⟨h, hq⟩⟩

theorem repl_len (z : List SV) (n : Nat) : (List.replicate n z).flatten.length = n * z.length := by simp

theorem repl_get (z : List SV) (n i : Nat) (hz : 0 < z.length) (hi : i < n * z.length) : (List.replicate n z).flatten[i]? = z[i % z.length]? := by
  induction n generalizing i with
  | zero => simp at hi
  | succ n ih =>
    rw [List.replicate_succ, List.flatten_cons]
    by_cases h : i < z.length
    · rw [List.getElem?_append_left h, Nat.mod_eq_of_lt h]
    · have hle : z.length ≤ i := by omega
      rw [List.getElem?_append_right hle, ih _ (by rw [Nat.add_mul] at hi; omega)]
      rw [← Nat.mod_eq_sub_mod hle]

theorem repl_cs (g : Gh) (w : World) {zv : Value} {n : Nat} (hz : 0 < zv.cells.size) (hf : ∀ c ∈ zv.cells.toList, flatV c = true) : Cs g w ((Array.range (n * zv.cells.size)).map (zv.cells[· % zv.cells.size]!)) (List.replicate n (zv.cells.toList.map SV.v)).flatten := by
  intro i c hi
  have hl : i < n * zv.cells.size := by have := (List.getElem?_eq_some_iff.1 hi).1; simpa using this
  rw [repl_get _ _ _ (by simpa using hz) (by simpa using hl)] at hi
  have hm : i % zv.cells.size < zv.cells.size := Nat.mod_lt _ hz
  simp only [List.length_map, Array.length_toList, List.getElem?_map, Option.map_eq_some_iff] at hi
  obtain ⟨x, hx, rfl⟩ := hi
  have hx' : zv.cells[i % zv.cells.size] = x := by
    have : zv.cells.toList[i % zv.cells.size]? = some zv.cells[i % zv.cells.size] := by simp [hm]
    rw [this] at hx; injection hx
  have e : ((Array.range (n * zv.cells.size)).map (zv.cells[· % zv.cells.size]!)).getD i undef = x := by
    simp [Array.getD, hl, hm, hx']
  rw [e]
  exact ⟨.v x, hf x (List.mem_of_getElem? hx)⟩

theorem places_struct {t : TypeId} {pl : Nat → Option (Nat × Nat)} {ag : Bool} (hag : agg? k t = some ag) (ht : ag = true) (h : places? k t = some pl) (parts : List (Nat × Value)) {zi : TypeInfo} {zv : Value} (hi : k.P.info? t = some zi) (hz : zi.zero = some zv) : k.P.built t parts = Instr.fill pl zv.cells parts := by
  subst ht
  unfold places? at h
  unfold agg? at hag
  unfold Program.built
  cases hu : k.P.underlying t with
  | none => simp [hu] at hag
  | some d =>
    cases d <;> simp_all
    · obtain ⟨ie, hie, rfl⟩ := h
      simp [hie]
    · obtain ⟨l, hl, rfl⟩ := h
      simp [hl]

theorem parts_rel {tm : Array Value} {ρ : Nat → SV} (hT : RT g w tm ρ) (parts : Array (Nat × Operand)) : ((parts.map fun (i, x) => (i, evalT tm x)).toList).length = (parts.toList.map fun p => (p.1, ev ρ p.2)).length ∧
    ∀ (i : Nat) (p : Nat × SV), (parts.toList.map fun p => (p.1, ev ρ p.2))[i]? = some p → ∃ u, ((parts.map fun (i, x) => (i, evalT tm x)).toList)[i]? = some (p.1, u) ∧ R g w u p.2 := by
  refine ⟨by simp, fun i p hp => ?_⟩
  simp only [List.getElem?_map, Option.map_eq_some_iff] at hp
  obtain ⟨q, hq, rfl⟩ := hp
  exact ⟨evalT tm q.2, by simp [hq], ev_sound hT q.2⟩

theorem evOp_sound (hk : KS k) (hG : G w0 g S w) {tm : Array Value} {ρ : Nat → SV} (hT : RT g w tm ρ) {o : Oper} {c : COp} (hop : c.op = o.op) {x : SV} {S' : St} (h : evOp k c ρ S = some (x, S')) :
    OpOK k.P (execOp (evalT tm) o) w (Good w0 S g w x S') := by
  unfold evOp at h
  rw [hop] at h
  unfold execOp
  split at h
  · simp only [Option.some.injEq, Prod.mk.injEq] at h
    obtain ⟨rfl, rfl⟩ := h
    rename_i y heq; rw [heq]
    exact ok_value (u := evalT tm y) (w' := w) (by simp) (good_same hG (ev_sound hT y))
  · simp only [Option.some.injEq, Prod.mk.injEq] at h
    obtain ⟨rfl, rfl⟩ := h
    rename_i y heq; rw [heq]
    exact ok_value (u := evalT tm y) (w' := w) (by simp) (good_same hG (ev_sound hT y))
  · rename_i cc a b heq; rw [heq]
    split at h
    · rename_i t hc
      have := ev_sound hT cc
      rw [hc] at this
      have e := R_v this
      simp only [Option.some.injEq, Prod.mk.injEq] at h
      obtain ⟨rfl, rfl⟩ := h
      cases t with
      | true => exact ok_value (u := evalT tm a) (w' := w) (by simp [e, asBool]) (good_same hG (by simpa using ev_sound hT a))
      | false => exact ok_value (u := evalT tm b) (w' := w) (by simp [e, asBool]) (good_same hG (by simpa using ev_sound hT b))
    · cases h
  · rename_i t heq; rw [heq]
    simp only [Option.map_eq_some_iff] at h
    obtain ⟨z, hz, h⟩ := h
    simp only [Prod.mk.injEq] at h
    obtain ⟨rfl, rfl⟩ := h
    obtain ⟨i, zv, hi, hzv, rfl, hf⟩ := zero_some hz
    obtain ⟨g', h1, h2, h3⟩ := new_cells hG t (scal_cells g w zv.cells hf) (by simp)
    exact ok_value (by simp [Instr.alloc, run_zero hi hzv, newVar, newRow]) ⟨g', h1, h2, h3⟩
  · rename_i t y heq; rw [heq]
    simp only [Option.map_eq_some_iff] at h
    obtain ⟨cs, hcs, h⟩ := h
    obtain ⟨hn, hC⟩ := cells_sound (ev_sound hT y) hcs
    split at h
    · simp only [Prod.mk.injEq] at h
      obtain ⟨rfl, rfl⟩ := h
      obtain ⟨h1, h2⟩ := hG.alloc_keep (.cells (evalT tm y).cells t) cs.length
      have hC' := hC.ext h2.ext
      refine ok_value (u := .pointer (some ⟨w.heap.size, 0, none⟩)) (w' := w.alloc (.cells (evalT tm y).cells t)) (by simp [Instr.box, newVar, newRow]) ⟨_, .cp w.heap.size 0 cs (fun i => (evalT tm y).cells.getD i undef) ?_ (fun i c hi => (hC' i c hi).1), h1, h2⟩
      intro i hi
      refine ⟨?_, ?_, (hC i _ (List.getElem?_eq_getElem hi)).2⟩
      · show 0 + i < if w.heap.size = w.heap.size then cs.length else _
        rw [if_pos rfl]; omega
      · rw [cell_of_row _ _ _ (evalT tm y).cells t (0, 0) (heap_alloc_new w _)]
        have : i < (evalT tm y).cells.size := by omega
        simp [Array.getD, this]
    · simp only [Prod.mk.injEq] at h
      obtain ⟨rfl, rfl⟩ := h
      obtain ⟨g', h1, h2, h3⟩ := new_cells hG t hC hn
      exact ok_value (by simp [Instr.box, newVar, newRow]) ⟨g', h1, h2, h3⟩
  · rename_i t parts heq; rw [heq]
    simp only [Option.bind_eq_some_iff] at h
    obtain ⟨ag, hag, h⟩ := h
    split at h
    · rename_i hat
      simp only [Option.bind_eq_some_iff, Option.map_eq_some_iff] at h
      obtain ⟨z, hz, pl, hpl, cs, hcs, h⟩ := h
      simp only [Prod.mk.injEq] at h
      obtain ⟨rfl, rfl⟩ := h
      obtain ⟨i, zv, hi, hzv, rfl, hf⟩ := zero_some hz
      obtain ⟨hl, hR⟩ := parts_rel hT parts
      obtain ⟨a', h1, h2, h3, _⟩ := fill_sound _ _ _ _ _ hl hR (scal_cells g w zv.cells hf) (by simp) hcs
      have hb := places_struct hag hat hpl (parts.map fun (i, x) => (i, evalT tm x)).toList hi hzv
      rw [h1] at hb
      exact ok_value (by simp [run_build w t _ _ hb]) (good_same hG (.agg _ _ h2 (fun i c hi => (h3 i c hi).2) (fun i c hi => (h3 i c hi).1)))
    · cases h
  · rename_i t len parts heq; rw [heq]
    simp only [Option.bind_eq_some_iff] at h
    obtain ⟨e, he, z, hz, sz, hsz, pl, hpl, h⟩ := h
    split at h
    · cases h
    rename_i hcond
    simp only [not_or, Nat.not_lt] at hcond
    obtain ⟨c1, c2, c3, c4⟩ := hcond
    have c1 := Decidable.of_not_not c1
    simp only [Option.map_eq_some_iff] at h
    obtain ⟨cs, hcs, h⟩ := h
    have hu := elem_some he
    obtain ⟨i, zv, hi, hzv, rfl, hf⟩ := zero_some hz
    obtain ⟨i1, hi1, rfl⟩ := size_some hsz
    obtain rfl : i = i1 := by rw [hi] at hi1; injection hi1
    simp only [List.length_map, Array.length_toList] at c1 c2 c4
    have hplf : pl = fun j => some (j * i.size, i.size) := by
      unfold places? at hpl
      rw [hu] at hpl
      simpa [hi] using hpl.symm
    subst hplf
    obtain ⟨hl, hR⟩ := parts_rel hT parts
    obtain ⟨a', h1, h2, h3, h4⟩ := fill_sound _ _ _ _ ((Array.range (len * zv.cells.size)).map (zv.cells[· % zv.cells.size]!)) hl hR (repl_cs g w (by omega) hf) (by simp) hcs
    have hsl : cs.length = len * i.size := by rw [h4, repl_len, c1]; simp
    obtain ⟨g', k1, k2, k3⟩ := new_slice hG e len len zv.cells.size h3 (by omega) (by rw [h2, hsl, c1]) (Nat.le_refl _) (decide (k.inBox e = 1))
    have hrun : (Instr.buildSlice t len (parts.map fun (i, x) => (i, evalT tm x))).run k.P w = .ok (.slice (some ⟨w.heap.size, 0, none⟩) len len) (w.alloc (.cells a' e)) := by
      by_cases hz0 : len = 0
      · subst hz0
        have ha : (Array.range (0 * zv.cells.size)).map (zv.cells[· % zv.cells.size]!) = #[] := by simp
        rw [ha] at h1
        simp [Instr.buildSlice, run_underlying hu, sizeOf, typeInfo, hi, newRow]
        have h1' : Instr.fill (fun i_1 => some (i_1 * i.size, i.size)) #[] (List.map (fun x => (x.fst, evalT tm x.snd)) parts.toList) = some a' := by simpa using h1
        have hr : ∀ (f : Nat → Value), (Array.range 0).map f = #[] := fun f => by simp [Array.range]
        simp [hr, h1']
      · refine run_buildSlice w t e len _ a' i zv hu hi hzv ?_ ?_ ?_
        · have : len * i.size ≤ 1000 * 1000 := Nat.mul_le_mul c3 (by omega)
          omega
        · have : 0 < len * i.size := Nat.mul_pos (by omega) (by omega)
          omega
        · rw [c1]; rw [c1] at h1; exact h1
    split at h
    · rename_i hl0
      subst hl0
      simp only [Prod.mk.injEq] at h
      obtain ⟨rfl, rfl⟩ := h
      exact ok_value (u := .slice (some ⟨w.heap.size, 0, none⟩) 0 0) (w' := w.alloc (.cells a' e)) (by simp [hrun]) ⟨_, .emp _ _, hG.alloc_dead _⟩
    · by_cases hb : k.inBox e = 1
      · simp only [hb, if_true, decide_true, Prod.mk.injEq, List.length_map, Array.length_toList] at h k1 k2 k3
        obtain ⟨rfl, rfl⟩ := h
        exact ok_value (by simp [hrun]) ⟨g', k1, k2, k3⟩
      · simp only [hb, if_false, decide_false, Bool.false_eq_true, Prod.mk.injEq, List.length_map, Array.length_toList] at h k1 k2 k3
        obtain ⟨rfl, rfl⟩ := h
        exact ok_value (by simp [hrun]) ⟨g', k1, k2, k3⟩
  · rename_i t a heq; rw [heq]
    simp only [Option.map_eq_some_iff, Prod.mk.injEq] at h
    obtain ⟨y, hy, rfl, rfl⟩ := h
    obtain ⟨u, h1, h2⟩ := load_sound hG (ev_sound hT a) hy
    exact ok_value (u := u) (w' := w) (by simp [h1]) (good_same hG h2)
  · rename_i t a y heq; rw [heq]
    simp only [Option.map_eq_some_iff, Prod.mk.injEq] at h
    obtain ⟨S1, hS, rfl, rfl⟩ := h
    obtain ⟨w', h1, h2, h3⟩ := store_sound hG (ev_sound hT a) (ev_sound hT y) hS
    exact ok_skip (w' := w') (by simp [h1]) ⟨g, .v _, h2, h3⟩
  · rename_i y heq; rw [heq]
    have hy := ev_sound hT y
    split at h
    all_goals first | cases h; done | skip
    all_goals
      rename_i he
      rw [he] at hy
      simp only [Option.some.injEq, Prod.mk.injEq] at h
      obtain ⟨rfl, rfl⟩ := h
      have hy' := hy
      generalize hev : evalT tm y = u at hy hy'
      cases hy
      exact ok_value (w' := w) (by simp [hev]) (good_same hG hy')
  · rename_i op t y z ty heq; rw [heq]
    simp only [Option.map_eq_some_iff, Prod.mk.injEq] at h
    obtain ⟨r, hr, rfl, rfl⟩ := h
    obtain ⟨u, h1, h2⟩ := bin_sound hk (xo := y) (yo := z) (ev_sound hT y) (ev_sound hT z) hr
    refine ok_value (u := u) (w' := w) ?_ (good_same hG h2)
    have h1' := h1
    simp only [Sem.run_bind] at h1' ⊢
    simp [h1']
  · rename_i t y heq; rw [heq]
    split at h
    · rename_i b hb
      have hy := ev_sound hT y
      rw [hb] at hy
      have e := R_v hy
      simp only [Option.some.injEq, Prod.mk.injEq] at h
      obtain ⟨rfl, rfl⟩ := h
      exact ok_value (u := .bool (!b)) (w' := w) (by simp [e, Op.unary]) (good_same hG (.v _))
    · cases h
  · rename_i src dst y heq; rw [heq]
    split at h
    · rename_i d q q' n' h1 h2 h3
      have hy := ev_sound hT y
      rw [h3] at hy
      have e := R_v hy
      simp only [Option.some.injEq, Prod.mk.injEq] at h
      obtain ⟨rfl, rfl⟩ := h
      exact ok_value (u := .int q (q.wrap n')) (w' := w) (by simp [e, convert, run_underlying h1, run_underlying h2, Conv.intToInt]) (good_same hG (.v _))
    · cases h
  · rename_i f fst cap heq; rw [heq]
    simp only [Option.some.injEq, Prod.mk.injEq] at h
    obtain ⟨rfl, rfl⟩ := h
    have key : ∀ (l : Array Operand), (l.map (evalT tm)).size = (l.toList.map (ev ρ)).length ∧ ∀ i c, (l.toList.map (ev ρ))[i]? = some c → R g w ((l.map (evalT tm)).getD i undef) c := by
      intro l
      refine ⟨by simp, fun i c hi => ?_⟩
      simp only [List.getElem?_map, Option.map_eq_some_iff] at hi
      obtain ⟨y, hy, rfl⟩ := hi
      have e : (l.map (evalT tm)).getD i undef = evalT tm y := by rw [getD_list]; simp [List.getD, hy]
      rw [e]; exact ev_sound hT y
    exact ok_value (u := .func (.func f) (fst.map (evalT tm)) (cap.map (evalT tm))) (w' := w) (by simp [Instr.makeFunc]) (good_same hG (.func f _ _ _ _ (key fst).1 (key fst).2 (key cap).1 (key cap).2))
  · rename_i t heq; rw [heq]
    simp only [Option.some.injEq, Prod.mk.injEq] at h
    obtain ⟨rfl, rfl⟩ := h
    have hO : ObjR (g.add w.heap.size 0 0) (w.alloc (.map #[] 0)) g.n (.map []) :=
      ⟨by rw [add_box, add_use], #[], 0, by rw [add_box]; exact heap_alloc_new w _, MapKept.stamped_empty 0, rfl, fun i p hp => by simp at hp⟩
    obtain ⟨h1, h2⟩ := hG.alloc (.map #[] 0) 0 0 (.map []) hO
    have hR := R.map (g := g.add w.heap.size 0 0) (w := w.alloc (.map #[] 0)) g.n (Nat.lt_succ_self g.n)
    rw [add_box, hG.n] at hR
    exact ok_value (u := .map (some w.heap.size)) (w' := w.alloc (.map #[] 0)) (by simp [Instr.makeMap]) ⟨_, hR, h1, h2⟩
  · rename_i t l cc heq; rw [heq]
    simp only [Option.bind_eq_some_iff] at h
    obtain ⟨e, he, z, hz, by_, hby, sz, hsz, h⟩ := h
    have hu := elem_some he
    obtain ⟨i, zv, hi, hzv, rfl, hf⟩ := zero_some hz
    obtain ⟨i1, hi1, rfl⟩ := size_some hsz
    obtain rfl : i = i1 := by rw [hi] at hi1; injection hi1
    obtain ⟨i2, hi2, rfl⟩ := bytes_some hby
    obtain rfl : i = i2 := by rw [hi] at hi2; injection hi2
    split at h
    · rename_i n m h1 h2
      split at h
      · rename_i hc
        obtain ⟨rfl, hn0, hroom, hz0, hb0, hsz0⟩ := hc
        simp only [Option.some.injEq, Prod.mk.injEq] at h
        obtain ⟨rfl, rfl⟩ := h
        have hl := ev_sound hT l
        rw [h1] at hl
        have hl := R_v hl
        have hcv := ev_sound hT cc
        rw [h2] at hcv
        have hcv := R_v hcv
        simp only [List.length_map, Array.length_toList] at hz0 hsz0
        have hzp : 0 < zv.cells.size := Nat.pos_of_ne_zero hz0
        obtain ⟨m, rfl⟩ := Int.eq_ofNat_of_zero_le hn0
        simp only [Int.toNat_natCast] at hroom ⊢
        have hbig : m ≤ room := Nat.le_trans (Nat.le_mul_of_pos_right _ (Nat.pos_of_ne_zero hb0)) hroom
        obtain ⟨g', k1, k2, k3⟩ := new_slice hG e m m zv.cells.size (repl_cs g w (n := m) hzp hf) (by simp) (by simp) (Nat.le_refl _) true
        have hw : IntKind.i64.wrap (m : Int) = m := by
          unfold room at hbig
          exact IntWalk.i64_in _ (by omega)
        have hmul : ¬ ((281474976710656 : Int) < (i.bytes : Int) * (m : Int)) := by
          unfold room at hroom
          have : (i.bytes : Int) * (m : Int) = ((m * i.bytes : Nat) : Int) := by rw [Nat.mul_comm]; simp
          rw [this]; omega
        have hne : ¬ (m * i.size = 0 ∧ False) := by simp
        refine ok_value (u := .slice (some ⟨w.heap.size, 0, none⟩) m m) (w' := w.alloc (.cells ((Array.range (m * zv.cells.size)).map (zv.cells[· % zv.cells.size]!)) e)) ?_ ⟨g', by simpa using k1, by simpa using k2, by simpa using k3⟩
        by_cases hm0 : m = 0
        · subst hm0
          have hr : ∀ (f : Nat → Value), (Array.range 0).map f = #[] := fun f => by simp [Array.range]
          have hw0 : IntKind.i64.wrap 0 = 0 := by decide
          simp [hl, hcv, Instr.makeSlice, run_underlying hu, asInt, asIntOf, typeInfo, hi, sizeOf, newRow, hr, hw0]
        · have hneg : ¬ (m : Int) < 0 := by omega
          have hm1 : ¬ m * zv.cells.size = 0 := by
            have := Nat.mul_pos (Nat.pos_of_ne_zero hm0) hzp
            omega
          have hz' : zv.cells.size ≠ 0 := hz0
          simp [hl, hcv, Instr.makeSlice, run_underlying hu, asInt, asIntOf, typeInfo, hi, sizeOf, newRow, hw, hmul, hm1, hm0, hz', hneg, run_zero hi hzv, hsz0]
      · cases h
    · cases h
  · rename_i t y lo hi heq; rw [heq]
    simp only [Option.map_eq_some_iff, Prod.mk.injEq] at h
    obtain ⟨r, hr, rfl, rfl⟩ := h
    have ho : ∀ z : Option Operand, OptR g w (z.map (evalT tm)) (z.map (ev ρ)) := fun z => by
      cases z with
      | none => trivial
      | some z => exact ev_sound hT z
    obtain ⟨u, h1, h2⟩ := slice_sound (ev_sound hT y) (ho lo) (ho hi) hr
    exact ok_value (u := u) (w' := w) (by simp [h1]) (good_same hG h2)
  · rename_i t y i heq; rw [heq]
    simp only [Option.map_eq_some_iff, Prod.mk.injEq] at h
    obtain ⟨r, hr, rfl, rfl⟩ := h
    obtain ⟨u, h1, h2⟩ := field_sound (ev_sound hT y) hr
    exact ok_value (u := u) (w' := w) (by simp [h1]) (good_same hG h2)
  · rename_i t y i heq; rw [heq]
    simp only [Option.map_eq_some_iff, Prod.mk.injEq] at h
    obtain ⟨r, hr, rfl, rfl⟩ := h
    obtain ⟨u, h1, h2⟩ := indexAddr_sound (ev_sound hT y) (ev_sound hT i) hr
    exact ok_value (u := u) (w' := w) (by simp [h1]) (good_same hG h2)
  · rename_i t y i ok heq; rw [heq]
    simp only [Option.map_eq_some_iff, Prod.mk.injEq] at h
    obtain ⟨r, hr, rfl, rfl⟩ := h
    obtain ⟨u, h1, h2⟩ := lookup_sound hG (ev_sound hT y) (ev_sound hT i) hr
    exact ok_value (u := u) (w' := w) (by simp [h1]) (good_same hG h2)
  · rename_i t y i z heq; rw [heq]
    simp only [Option.map_eq_some_iff, Prod.mk.injEq] at h
    obtain ⟨r, hr, rfl, rfl⟩ := h
    obtain ⟨w', h1, h2, h3⟩ := update_sound hG (ev_sound hT y) (ev_sound hT i) (ev_sound hT z) hr
    exact ok_skip (w' := w') (by simp [h1]) ⟨g, .v _, h2, h3⟩
  · rename_i t y i z heq; rw [heq]
    simp only [Option.map_eq_some_iff, Prod.mk.injEq] at h
    obtain ⟨r, hr, rfl, rfl⟩ := h
    obtain ⟨w', h1, h2, h3⟩ := update_sound hG (ev_sound hT y) (ev_sound hT i) (ev_sound hT z) hr
    exact ok_skip (w' := w') (by simp [h1]) ⟨g, .v _, h2, h3⟩
  · rename_i t i heq; rw [heq]
    have ht := ev_sound hT t
    split at h
    · rename_i vs hv
      rw [hv] at ht
      simp only [Option.map_eq_some_iff, Prod.mk.injEq] at h
      obtain ⟨r, hr, rfl, rfl⟩ := h
      generalize hev : evalT tm t = u at ht
      cases ht with
      | tuple cs cs' h1 h2 =>
        have hi : i < vs.length := (List.getElem?_eq_some_iff.1 hr).1
        have hi' : i < cs'.size := by omega
        have := h2 i r hr
        simp only [Array.getD, hi', dif_pos] at this
        exact ok_value (u := cs'[i]) (w' := w) (by simp [hev, Instr.extract, hi']) (good_same hG this)
    · cases h
  · rename_i b args ts heq; rw [heq]
    have hargs : ∀ (i : Nat) (x : SV), (args.toList.map (ev ρ))[i]? = some x → ∃ u, (args.map (evalT tm))[i]? = some u ∧ R g w u x := by
      intro i x hx
      simp only [List.getElem?_map, Option.map_eq_some_iff] at hx
      obtain ⟨y, hy, rfl⟩ := hx
      exact ⟨evalT tm y, by simp at hy; simp [hy], ev_sound hT y⟩
    have hsz : (args.map (evalT tm)).size = (args.toList.map (ev ρ)).length := by simp
    generalize hA : args.map (evalT tm) = A at hargs hsz
    generalize hX : args.toList.map (ev ρ) = X at h hargs hsz
    unfold builtinE at h
    split at h
    · rename_i t x hts
      simp only [Option.map_eq_some_iff, Prod.mk.injEq] at h
      obtain ⟨r, hr, rfl, rfl⟩ := h
      obtain ⟨u, hu, hR⟩ := hargs 0 _ rfl
      have hAe : A = #[u] := by
        apply Array.ext_getElem?
        intro i
        rcases i with _ | i
        · simpa using hu
        · simp at hsz; simp [hsz]
      have htse : ts = #[t] := by apply Array.ext'; simpa using hts
      subst hAe; subst htse
      obtain ⟨v, h1, h2⟩ := len_sound (ty := o.type) hR hr
      exact ok_value (u := v) (w' := w) (by simp [resolve, invoke, builtin, hA, h1]) (good_same hG h2)
    · rename_i t t2 s x hts
      split at h
      · rename_i ht2
        obtain ⟨u, hu, hR⟩ := hargs 0 _ rfl
        obtain ⟨v, hv, hRv⟩ := hargs 1 _ rfl
        have hAe : A = #[u, v] := by
          apply Array.ext_getElem?
          intro i
          rcases i with _ | _ | i
          · simpa using hu
          · simpa using hv
          · simp at hsz; simp [hsz]
        have htse : ts = #[t, t2] := by apply Array.ext'; simpa using hts
        subst hAe; subst htse
        obtain ⟨r, w', g', h1, h2, h3, h4⟩ := append_sound (ty := o.type) hG hR hRv ht2 h
        exact ok_value (u := r) (w' := w') (by simp [resolve, invoke, builtin, hA, h1]) ⟨g', h2, h3, h4⟩
      · cases h
    · rename_i l x y hts
      simp only [Option.map_eq_some_iff, Prod.mk.injEq] at h
      obtain ⟨r, hr, rfl, rfl⟩ := h
      obtain ⟨u, hu, hR⟩ := hargs 0 _ rfl
      obtain ⟨v, hv, hRv⟩ := hargs 1 _ rfl
      have hAe : A = #[u, v] := by
        apply Array.ext_getElem?
        intro i
        rcases i with _ | _ | i
        · simpa using hu
        · simpa using hv
        · simp at hsz; simp [hsz]
      subst hAe
      obtain ⟨z, h1, h2⟩ := max_sound (k := k) (ts := ts) (ty := o.type) hR hRv hr
      exact ok_value (u := z) (w' := w) (by simp only [resolve, invoke, builtin, hA, Sem.run_bind, Sem.run_pure, Result.andThen_ok, h1]) (good_same hG h2)
    · cases h
  · cases h
end
end Go.Sv
end
section
set_option linter.all false
/- What is kept of a value when the state is left behind; new slices that never change. -/
namespace Go.Sv
open Go Go.RowKit

theorem eraseL_map (S : St) : ∀ l, eraseL S l = l.map (erase S)
  | [] => rfl
  | x :: r => by simp [eraseL, eraseL_map S r]
theorem shutL_map : ∀ l, shutL l = l.map shut
  | [] => rfl
  | x :: r => by simp [shutL, shutL_map r]

theorem R_weakV {g : Gh} {w : World} (u : Value) : R g w u (weakV u) := by
  unfold weakV
  split
  · exact .nil
  · exact .v _
theorem weakL_map : ∀ l, weakL l = l.map weak
  | [] => rfl
  | x :: r => by simp [weakL, weakL_map r]

theorem R_weak {g : Gh} {w : World} {u : Value} {x : SV} (h : R g w u x) : R g w u (weak x) := by
  have key : ∀ {cs : List SV} {f : Nat → Value}, (∀ i c, cs[i]? = some c → R g w (f i) (weak c)) → ∀ i c, (weakL cs)[i]? = some c → R g w (f i) c := by
    intro cs f ih i c hi
    rw [weakL_map, List.getElem?_map, Option.map_eq_some_iff] at hi
    obtain ⟨c', h1, rfl⟩ := hi
    exact ih i c' h1
  have len : ∀ cs, (weakL cs).length = cs.length := fun cs => by simp [weakL_map]
  induction h with
  | v u => exact R_weakV u
  | nil => exact .nil
  | emp B o => exact .sl B o 0 0 [] (fun _ => undef) (fun i hi => absurd hi (Nat.not_lt_zero i)) (fun i c hi => by simp at hi) (Nat.le_refl _)
  | nil0 => exact .nil
  | slz a c => exact .slz a c
  | top u => exact .top u
  | ptr b off hb => exact .ptr b off hb
  | cp B o cs f hc hr _ => exact .cp B o cs f hc hr
  | sl B o n c cs f hc _ hn ih => exact .sl B o n c _ f (by rw [len]; exact hc) (key ih) hn
  | own b n cs f hb hc _ hn ih => exact .sl (g.box b) 0 n _ _ f (by rw [len]; exact hc) (key ih) hn
  | arr b n hb hn => exact .arr b n hb hn
  | map b hb => exact .map b hb
  | func f fst cap fst' cap' h1 h2 h3 h4 _ _ => exact .func f fst cap fst' cap' h1 h2 h3 h4
  | yield l hl => exact .yield l hl
  | agg cs cs' h1 h2 _ ih =>
    refine .agg _ cs' (by rw [len]; exact h1) (fun i c hi => ?_) (key (f := fun i => cs'.getD i undef) ih)
    rw [weakL_map, List.getElem?_map, Option.map_eq_some_iff] at hi
    obtain ⟨c', h1, rfl⟩ := hi
    exact h2 i c' h1
  | tuple cs cs' h1 _ ih => exact .tuple _ cs' (by rw [len]; exact h1) (key (f := fun i => cs'.getD i undef) ih)

theorem Rs_weak {g : Gh} {w : World} {us : List Value} {xs : List SV} (h : Rs g w us xs) : Rs g w us (xs.map weak) := by
  refine ⟨by simp [h.1], fun i c hi => ?_⟩
  rw [List.getElem?_map, Option.map_eq_some_iff] at hi
  obtain ⟨c', h1, rfl⟩ := hi
  exact R_weak (h.2 i c' h1)

section
variable {w0 : World} {k : K} {g : Gh} {S : St} {w : World}

def blockSize (w : World) (B : Nat) : Nat := match w.heap[B]? with | some (.cells a _ _) => a.size | _ => 0

/-- A row that was written by the call that is over. -/
def Raised (g g1 : Gh) (S1 : St) (B : Nat) : Prop := ∃ b, g.n ≤ b ∧ b < g1.n ∧ g1.box b = B ∧ ∃ sz cs, S1.get b = .arr sz cs

open Classical in
/-- Behind a call that leaves no trace: its boxes are forgotten, its rows stay for good. -/
noncomputable def Gh.back (g g1 : Gh) (S1 : St) (w1 : World) : Gh :=
  { base := g.base, n := g.n, box := g.box, cap := g.cap, use := fun B => if Raised g g1 S1 B then max (g1.use B) (blockSize w1 B) else g1.use B }

theorem back_pos {g1 : Gh} {S1 : St} {w1 : World} {B : Nat} (h : Raised g g1 S1 B) : (g.back g1 S1 w1).use B = max (g1.use B) (blockSize w1 B) := by simp [Gh.back, h]
theorem back_neg {g1 : Gh} {S1 : St} {w1 : World} {B : Nat} (h : ¬ Raised g g1 S1 B) : (g.back g1 S1 w1).use B = g1.use B := by simp [Gh.back, h]
theorem back_le (g1 : Gh) (S1 : St) (w1 : World) (B : Nat) : g1.use B ≤ (g.back g1 S1 w1).use B := by
  by_cases h : Raised g g1 S1 B
  · rw [back_pos h]; exact Nat.le_max_left _ _
  · rw [back_neg h]; exact Nat.le_refl _

theorem R_back {g1 g2 : Gh} {S1 : St} {w1 : World} (G1 : G w0 g1 S1 w1) (use_le : ∀ B, g1.use B ≤ g2.use B) (up : ∀ b sz cs, b < g1.n → S1.floor ≤ b → S1.get b = .arr sz cs → blockSize w1 (g1.box b) ≤ g2.use (g1.box b)) {u : Value} {y : SV} (h : R g1 w1 u y) : R g2 w1 u (erase S1 y) := by
  have cont : ∀ {B o len : Nat} {f : Nat → Value}, Cont g1 w1 B o len f → Cont g2 w1 B o len f := by
    intro B o len f h i hi
    obtain ⟨h1, h2⟩ := h i hi
    exact ⟨Nat.lt_of_lt_of_le h1 (use_le B), h2⟩
  have key : ∀ {cs : List SV} {f : Nat → Value}, (∀ i c, cs[i]? = some c → R g2 w1 (f i) (erase S1 c)) → ∀ i c, (eraseL S1 cs)[i]? = some c → R g2 w1 (f i) c := by
    intro cs f ih i c hi
    rw [eraseL_map, List.getElem?_map, Option.map_eq_some_iff] at hi
    obtain ⟨c', h1, rfl⟩ := hi
    exact ih i c' h1
  have len : ∀ cs, (eraseL S1 cs).length = cs.length := fun cs => by simp [eraseL_map]
  induction h with
  | v u => exact R_weakV u
  | nil => exact .nil
  | emp B o => exact .sl B o 0 0 [] (fun _ => undef) (fun i hi => absurd hi (Nat.not_lt_zero i)) (fun i c hi => by simp at hi) (Nat.le_refl _)
  | nil0 => exact .nil
  | slz a c => exact .slz a c
  | top u => exact .top u
  | ptr b off hb => exact .top _
  | cp B o cs f hc hr _ => exact .top _
  | sl B o n c cs f hc _ hn ih => exact .sl B o n c _ f (by rw [len]; exact cont hc) (key ih) hn
  | own b n cs f hb hc _ hn ih => exact .sl (g1.box b) 0 n _ _ f (by rw [len]; exact cont hc) (key ih) hn
  | arr b n hlt hcap =>
    simp only [erase]
    split
    · rename_i hf
      split
      · rename_i sz cs hget
        have hO := G1.obj b hlt
        rw [hget] at hO
        obtain ⟨a, T, hh, hsz, hle, hcs, hu⟩ := hO
        refine .sl (g1.box b) 0 n _ _ (fun i => a.getD i undef) ?_ ?_ hcap
        · intro i hi
          simp only [List.length_map] at hi
          have hia : i < a.size := by omega
          refine ⟨?_, ?_, ?_⟩
          · have h1 := up b sz cs hlt hf hget
            have : blockSize w1 (g1.box b) = a.size := by simp [blockSize, hh]
            omega
          · have := row_load hh (off := 0) i (by omega)
            rw [add_none] at this
            simpa using this
          · exact (hcs i cs[i] (by simp)).2
        · intro i c hi
          rw [List.getElem?_map, Option.map_eq_some_iff] at hi
          obtain ⟨c', h1, rfl⟩ := hi
          have := (hcs i c' h1).1
          cases c' with
          | v u' =>
            have e := R_v this
            simp only [plainC]
            rw [e]
            exact R_weakV _
          | _ => exact .top _
      · exact .top _
    · exact .top _
  | map b hb => exact .top _
  | func f fst cap fst' cap' h1 h2 h3 h4 _ _ => exact .top _
  | yield l hl => exact .top _
  | agg cs cs' h1 h2 _ ih =>
    refine .agg _ cs' (by rw [len]; exact h1) (fun i c hi => ?_) (key (f := fun i => cs'.getD i undef) ih)
    rw [eraseL_map, List.getElem?_map, Option.map_eq_some_iff] at hi
    obtain ⟨c', h1, rfl⟩ := hi
    exact h2 i c' h1
  | tuple cs cs' h1 _ ih => exact .tuple _ cs' (by rw [len]; exact h1) (key (f := fun i => cs'.getD i undef) ih)

theorem restore {g1 : Gh} {S1 : St} {w1 : World} (hG : G w0 g S w) (G1 : G w0 g1 S1 w1) (T : Tr { S with floor := S.next } g w S1 g1 w1) {v : Value} {y : SV} (hR : R g1 w1 v y) : Good w0 S g w (erase S1 y) S v w1 := by
  have hn := hG.n
  have hfl := hG.floor
  have use_le := back_le (g := g) g1 S1 w1
  have hext : Ext g w (g.back g1 S1 w1) w1 := ⟨rfl, Nat.le_refl _, fun _ _ => rfl, fun _ _ => rfl, fun B => Nat.le_trans (T.ext.use B) (use_le B), T.ext.cell⟩
  have hold : ∀ b, b < g.n → (S.get b).live → w1.heap[g.box b]? = w.heap[g.box b]? ∧ (g.back g1 S1 w1).use (g.box b) = g.use (g.box b) := by
    intro b hb hl
    obtain ⟨h1, h2⟩ := T.heap b (by show b < S.next; omega) hl
    refine ⟨h1, ?_⟩
    rw [← h2]
    apply back_neg
    rintro ⟨b', k1, k2, k3, sz, cs, k4⟩
    have e1 : S1.get b = S.get b := T.get b (by show b < S.next; omega)
    have := G1.ne b' b k2 (Nat.lt_of_lt_of_le hb T.ext.n) (by rw [k4]; trivial) (by rw [e1]; exact hl) (by rw [k3, T.ext.box b hb])
    omega
  refine ⟨g.back g1 S1 w1, R_back G1 use_le (fun b sz cs h1 h2 h3 => by rw [back_pos ⟨b, by rw [T.floor] at h2; have : S.next ≤ b := h2; omega, h1, rfl, sz, cs, h3⟩]; exact Nat.le_max_right _ _) hR, ?_, ?_⟩
  · refine ⟨hn, hfl, fun b hb => (hG.obj b hb).ext hext hb (hold b hb), hG.lo, hG.ne, ?_, ?_, ?_⟩
    · intro B hB
      have hz := G1.fresh B hB
      by_cases hr : Raised g g1 S1 B
      · rw [back_pos hr]
        have : blockSize w1 B = 0 := by
          have : w1.heap[B]? = none := Array.getElem?_eq_none hB
          simp [blockSize, this]
        omega
      · rw [back_neg hr]; exact hz
    · show g.base ≤ _
      rw [← T.ext.base]; exact G1.base
    · show Below g.base w0 w1
      rw [← T.ext.base]; exact G1.below
  · refine ⟨hext, rfl, Nat.le_refl _, fun _ _ => rfl, fun b hb hl => hold b (by omega) hl, fun B hB => ?_⟩
    rw [back_neg, T.low B hB]
    rintro ⟨b', k1, k2, k3, sz, cs, k4⟩
    have h1 := G1.lo b' k2 (by rw [k4]; trivial)
    have h2 := T.ext.base
    omega


/-- The ghost of a call that is told nothing of the state. -/
def Gh.cut (g : Gh) (w : World) : Gh := { base := w.heap.size, n := 0, box := fun _ => 0, cap := fun _ => 0, use := g.use }

theorem G.cut (hG : G w0 g S w) : G w (g.cut w) St0 w := by
  refine ⟨rfl, Nat.le_refl _, fun b hb => ?_, fun b hb => ?_, fun b b' hb => ?_, hG.fresh, Nat.le_refl _, .refl _ _⟩
  all_goals exact absurd hb (Nat.not_lt_zero _)

theorem R_shut {u : Value} {x : SV} (h : R g w u x) : R (g.cut w) w u (shut x) := by
  have key : ∀ {cs : List SV} {f : Nat → Value}, (∀ i c, cs[i]? = some c → R (g.cut w) w (f i) (shut c)) → ∀ i c, (shutL cs)[i]? = some c → R (g.cut w) w (f i) c := by
    intro cs f ih i c hi
    rw [shutL_map, List.getElem?_map, Option.map_eq_some_iff] at hi
    obtain ⟨c', h1, rfl⟩ := hi
    exact ih i c' h1
  have len : ∀ cs, (shutL cs).length = cs.length := fun cs => by simp [shutL_map]
  have cont : ∀ {B o len : Nat} {f : Nat → Value}, Cont g w B o len f → Cont (g.cut w) w B o len f := fun h => h
  induction h with
  | v u => exact .v u
  | nil => exact .nil
  | emp B o => exact .emp B o
  | nil0 => exact .nil0
  | slz a c => exact .slz a c
  | top u => exact .top u
  | ptr b off hb => exact .top _
  | cp B o cs f hc hr ih => exact .cp B o _ f (by rw [len]; exact cont hc) (key ih)
  | sl B o n c cs f hc _ hn ih => exact .sl B o n c _ f (by rw [len]; exact cont hc) (key ih) hn
  | own b n cs f hb hc _ hn ih => exact .sl (g.box b) 0 n _ _ f (by rw [len]; exact cont hc) (key ih) hn
  | arr b n hb hn => exact .top _
  | map b hb => exact .top _
  | func f fst cap fst' cap' h1 h2 h3 h4 ih1 ih2 => exact .func f _ _ fst' cap' (by rw [len]; exact h1) (key (f := fun i => fst'.getD i undef) ih1) (by rw [len]; exact h3) (key (f := fun i => cap'.getD i undef) ih2)
  | yield l hl => exact .top _
  | agg cs cs' h1 h2 _ ih =>
    refine .agg _ cs' (by rw [len]; exact h1) (fun i c hi => ?_) (key (f := fun i => cs'.getD i undef) ih)
    rw [shutL_map, List.getElem?_map, Option.map_eq_some_iff] at hi
    obtain ⟨c', h1, rfl⟩ := hi
    exact h2 i c' h1
  | tuple cs cs' h1 _ ih => exact .tuple _ cs' (by rw [len]; exact h1) (key (f := fun i => cs'.getD i undef) ih)

theorem apart {g1 : Gh} {S1 : St} {w1 : World} (hG : G w0 g S w) (G1 : G w g1 S1 w1) (T : Tr St0 (g.cut w) w S1 g1 w1) {v : Value} {y : SV} (hR : R g1 w1 v y) : Good w0 S g w (erase S1 y) S v w1 := by
  have hn := hG.n
  have hfl := hG.floor
  have hbel : Below w.heap.size w w1 := by
    have := G1.below
    rw [T.ext.base] at this
    exact this
  let g2 : Gh := { base := g.base, n := g.n, box := g.box, cap := g.cap, use := ((g.cut w).back g1 S1 w1).use }
  have use_le : ∀ B, g1.use B ≤ g2.use B := back_le (g := g.cut w) g1 S1 w1
  have hlow : ∀ B, B < w.heap.size → g2.use B = g.use B := by
    intro B hB
    show ((g.cut w).back g1 S1 w1).use B = _
    rw [back_neg]
    · exact T.low B hB
    · rintro ⟨b', k1, k2, k3, sz, cs, k4⟩
      have h1 := G1.lo b' k2 (by rw [k4]; trivial)
      have h2 : g1.base = w.heap.size := T.ext.base
      omega
  have hext : Ext g w g2 w1 := ⟨rfl, Nat.le_refl _, fun _ _ => rfl, fun _ _ => rfl, fun B => Nat.le_trans (T.ext.use B) (use_le B), T.ext.cell⟩
  have hold : ∀ b, b < g.n → (S.get b).live → w1.heap[g.box b]? = w.heap[g.box b]? ∧ g2.use (g.box b) = g.use (g.box b) := by
    intro b hb hl
    have := live_size (hG.obj b hb) hl
    exact ⟨hbel.block _ this, hlow _ this⟩
  refine ⟨g2, R_back G1 use_le (fun b sz cs h1 h2 h3 => ?_) hR, ?_, ?_⟩
  · show _ ≤ ((g.cut w).back g1 S1 w1).use _
    rw [back_pos ⟨b, Nat.zero_le _, h1, rfl, sz, cs, h3⟩]; exact Nat.le_max_right _ _
  · refine ⟨hn, hfl, fun b hb => (hG.obj b hb).ext hext hb (hold b hb), hG.lo, hG.ne, ?_, Nat.le_trans hG.base hbel.size, hG.below.trans (hbel.mono hG.base)⟩
    intro B hB
    show ((g.cut w).back g1 S1 w1).use B = _
    have hz := G1.fresh B hB
    by_cases hr : Raised (g.cut w) g1 S1 B
    · rw [back_pos hr]
      have : blockSize w1 B = 0 := by
        have : w1.heap[B]? = none := Array.getElem?_eq_none hB
        simp [blockSize, this]
      omega
    · rw [back_neg hr]; exact hz
  · exact ⟨hext, rfl, Nat.le_refl _, fun _ _ => rfl, fun b hb hl => hold b (by omega) hl, fun B hB => hlow B (Nat.lt_of_lt_of_le hB hG.base)⟩

theorem evOpF_sound (hk : KS k) (hG : G w0 g S w) {tm : Array Value} {ρ : Nat → SV} (hT : RT g w tm ρ) {o : Oper} {c : COp} (hop : c.op = o.op) {x : SV} {S' : St} (h : evOpF k c ρ S = some (x, S')) : OpOK k.P (execOp (evalT tm) o) w (Good w0 S g w x S') := by
  unfold evOpF at h
  split at h
  · simp only [Option.map_eq_some_iff, Prod.mk.injEq] at h
    obtain ⟨⟨y, S1⟩, h, rfl, rfl⟩ := h
    have hT' : RT (g.cut w) w tm (fun t => shut (ρ t)) := fun t => R_shut (hT t)
    obtain ⟨w1, ⟨u, hrun, g1, hR, hG1, hT1⟩ | ⟨hrun, g1, hR, hG1, hT1⟩⟩ := evOp_sound hk hG.cut hT' (o := o) hop h
    · exact ok_value hrun (apart hG hG1 hT1 hR)
    · exact ok_skip hrun (apart hG hG1 hT1 hR)
  · exact evOp_sound hk hG hT hop h
end
end Go.Sv
end
