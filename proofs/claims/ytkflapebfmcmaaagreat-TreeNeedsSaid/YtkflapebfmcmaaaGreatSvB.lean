/- A part of the proofs of this seat's laws: an interpreter of the program's form, its soundness against the model, or what it answers on this program. -/
/- append. -/
import Derived.Test.YtkflapebfmcmaaaGreatSvA
namespace Go.Sv
open Go Go.RowKit

theorem growBy_le (newLen : Nat) : ∀ r c, Builtin.growBy newLen r c ≤ max c (newLen + (newLen + 768) / 4)
  | 0, c => by simp [Builtin.growBy]; omega
  | r + 1, c => by
    unfold Builtin.growBy
    split
    · omega
    · have := growBy_le newLen r (c + (c + 768) / 4)
      omega
theorem nextcap_le (need cap : Nat) (h : cap < need) : Builtin.nextslicecap need cap ≤ 2 * need := by
  unfold Builtin.nextslicecap
  split
  · omega
  · split
    · omega
    · have := growBy_le need 4 cap; omega

section
variable {w0 : World} {g : Gh} {S : St} {w : World} {k : K}

theorem cs_of_cont {B o : Nat} {cs : List SV} {f : Nat → Value} (hc : Cont g w B o cs.length f) (hR : ∀ i c, cs[i]? = some c → R g w (f i) c) : Cs g w ((List.range cs.length).map f).toArray cs := by
  intro i c hi
  have hl : i < cs.length := (List.getElem?_eq_some_iff.1 hi).1
  have e : ((List.range cs.length).map f).toArray.getD i undef = f i := by simp [Array.getD, hl]
  rw [e]
  exact ⟨hR i c hi, (hc i hl).2.2⟩

/-- What is appended, read. -/
theorem src_sound (hG : G w0 g S w) {u : Value} {x : SV} {sz m : Nat} {ys : List SV} (hx : R g w u x) (h : srcCells x S sz = some (m, ys)) :
    ∃ A c, ∃ new : Array Value, u = .slice A m c ∧ new.size = ys.length ∧ ys.length = m * sz ∧ Cs g w new ys ∧ ∀ w1 : World, (∀ a, w1.cell? a = w.cell? a) → (Builtin.firstCells sz m u).run k.P w1 = .ok new w1 := by
  have rd : ∀ (B o c : Nat) (cs : List SV) (f : Nat → Value), Cont g w B o cs.length f → (∀ i c, cs[i]? = some c → R g w (f i) c) → cs.length = m * sz → cs = ys →
      ∃ A c', ∃ new : Array Value, Value.slice (some ⟨B, o, none⟩) m c = .slice A m c' ∧ new.size = ys.length ∧ ys.length = m * sz ∧ Cs g w new ys ∧ ∀ w1 : World, (∀ a, w1.cell? a = w.cell? a) → (Builtin.firstCells sz m (.slice (some ⟨B, o, none⟩) m c)).run k.P w1 = .ok new w1 := by
    intro B o c cs f hc hR hl he
    subst he
    refine ⟨_, c, ((List.range cs.length).map f).toArray, rfl, by simp, hl, cs_of_cont hc hR, fun w1 hw => ?_⟩
    have := run_loadCells (P := k.P) w1 ⟨B, o, none⟩ cs.length f (fun j hj => by rw [hw, add_none]; exact (hc j hj).2.1)
    simpa [Builtin.firstCells, hl] using this
  unfold srcCells at h
  split at h
  · simp only [Option.some.injEq, Prod.mk.injEq] at h
    obtain ⟨rfl, rfl⟩ := h
    cases hx
    exact ⟨none, 0, #[], rfl, rfl, by simp, fun i c hi => by simp at hi, fun w1 _ => by simp [Builtin.firstCells]⟩
  · simp only [Option.some.injEq, Prod.mk.injEq] at h
    obtain ⟨rfl, rfl⟩ := h
    cases hx
    exact ⟨_, _, #[], rfl, rfl, by simp, fun i c hi => by simp at hi, fun w1 _ => by simp [Builtin.firstCells, loadCells]; rfl⟩
  · simp only [Option.some.injEq, Prod.mk.injEq] at h
    obtain ⟨rfl, rfl⟩ := h
    cases hx with
    | emp B o =>
      refine ⟨some ⟨B, o, none⟩, 0, #[], rfl, rfl, by simp, fun i c hi => by simp at hi, fun w1 _ => ?_⟩
      have := run_loadCells (P := k.P) w1 ⟨B, o, none⟩ 0 (fun _ => undef) (fun j hj => by omega)
      simpa [Builtin.firstCells] using this
    | nil0 => exact ⟨none, 0, #[], rfl, rfl, by simp, fun i c hi => by simp at hi, fun w1 _ => by simp [Builtin.firstCells]⟩
  · split at h
    · rename_i hl
      simp only [Option.some.injEq, Prod.mk.injEq] at h
      obtain ⟨rfl, rfl⟩ := h
      cases hx with
      | sl B o n c cs f hc hR hn => exact rd B o c _ f hc hR hl rfl
      | own b n cs f hb hc hR hn => exact rd _ 0 _ _ f hc hR hl rfl
      | nil => exact ⟨none, 0, #[], rfl, rfl, by simp, fun i c hi => by simp at hi, fun w1 _ => by simp [Builtin.firstCells]⟩
      | slz a c => exact ⟨some a, _, #[], rfl, rfl, by simp, fun i c hi => by simp at hi, fun w1 _ => by simp [Builtin.firstCells, loadCells]; rfl⟩
    · cases h
  · rename_i b m1
    split at h
    · rename_i s zs hget
      split at h
      · rename_i hl
        simp only [Option.some.injEq, Prod.mk.injEq] at h
        obtain ⟨rfl, rfl⟩ := h
        cases hx with
        | arr b n hb hn =>
          have hO := hG.obj b hb
          rw [hget] at hO
          obtain ⟨a, T, h1, h2, h3, h4, h5⟩ := hO
          refine ⟨_, _, ((List.range zs.length).map fun i => a.getD i undef).toArray, rfl, by simp, hl, fun i c hi => ?_, fun w1 hw => ?_⟩
          · have hlt : i < zs.length := (List.getElem?_eq_some_iff.1 hi).1
            have e : ((List.range zs.length).map fun i => a.getD i undef).toArray.getD i undef = a.getD i undef := by simp [Array.getD, hlt]
            rw [e]; exact h4 i c hi
          · have := run_loadCells (P := k.P) w1 ⟨g.box b, 0, none⟩ zs.length (fun i => a.getD i undef) (fun j hj => by
              rw [hw]
              have := row_load (w := w) (B := g.box b) (off := 0) h1 j (by omega)
              simpa using this)
            simpa [Builtin.firstCells, hl] using this
      · cases h
    · cases h
  · cases h

theorem zc_size (z : Array Value) (n : Nat) : (Builtin.zeroCells z n).size = n * z.size := by simp [Builtin.zeroCells]

/-- append that makes a new array. -/
theorem run_grow {t t2 ty e e2 : TypeId} {i0 : TypeInfo} {z : Value} {base : Option Addr} {sLen sCap m : Nat} {u : Value} {A : Option Addr} {c : Nat} {old new : Array Value} (hu : k.P.underlying t = some (.slice e)) (hu2 : k.P.underlying t2 = some (.slice e2))
    (hi : k.P.info? e = some i0) (hz : i0.zero = some z) (hx : u = .slice A m c) (hby : i0.bytes ≠ 0) (hroom : (sLen + m) * i0.bytes ≤ room) (hcap : sCap < sLen + m)
    (hold : ∀ w1 : World, (∀ a, w1.cell? a = w.cell? a) → (Builtin.firstCells i0.size sLen (.slice base sLen sCap)).run k.P w1 = .ok old w1)
    (hnew : ∀ w1 : World, (∀ a, w1.cell? a = w.cell? a) → (Builtin.firstCells i0.size m u).run k.P w1 = .ok new w1) :
    ∃ nc, sLen + m ≤ nc ∧ (Builtin.append_ #[t, t2] ty #[.slice base sLen sCap, u]).run k.P w = .ok (.slice (some ⟨w.heap.size, 0, none⟩) (sLen + m) nc) (w.drew.alloc (.cells (old ++ new ++ Builtin.zeroCells z.cells (nc - (sLen + m))) e)) := by
  have hnc := nextcap_le (sLen + m) sCap hcap
  have hle : ¬ Builtin.nextslicecap (sLen + m) sCap * i0.bytes > 2 ^ 48 := by
    have h1 : Builtin.nextslicecap (sLen + m) sCap * i0.bytes ≤ 2 * (sLen + m) * i0.bytes := Nat.mul_le_mul_right _ hnc
    have h2 : 2 * (sLen + m) * i0.bytes = 2 * ((sLen + m) * i0.bytes) := by rw [Nat.mul_assoc]
    unfold room at hroom
    omega
  refine ⟨(sLen + m) + (w.tape w.drawn (.appendCap (sLen + m) sCap e)) % (2 ^ 63 - (sLen + m)), Nat.le_add_right _ _, ?_⟩
  subst hx
  have hsz : ∀ w : World, (sizeOf e).run k.P w = .ok i0.size w := fun w => by simp [sizeOf, typeInfo, hi]
  have hti : ∀ w : World, (typeInfo e).run k.P w = .ok i0 w := fun w => by simp [typeInfo, hi]
  have hzv : ∀ w : World, (zeroValue e).run k.P w = .ok z w := fun w => by simp [zeroValue, typeInfo, hi, hz]
  have hn : ¬ sLen + m ≤ sCap := by omega
  have hnew' := hnew w.drew (fun a => rfl)
  have hold' := hold w.drew (fun a => rfl)
  have hle' : ¬ 281474976710656 < Builtin.nextslicecap (sLen + m) sCap * i0.bytes := by simpa using hle
  simp [Builtin.append_, run_underlying hu, run_underlying hu2, Builtin.lenOf, hn, hby, hle', hsz, hti, hzv, hnew', hold', run_choose, Question.forced, Question.cut, newRow]

/-- append within the capacity. -/
theorem run_fits {t t2 ty e e2 : TypeId} {i0 : TypeInfo} {B sLen sCap m : Nat} {u : Value} {A : Option Addr} {c : Nat} {a new : Array Value} {T : TypeId} (hu : k.P.underlying t = some (.slice e)) (hu2 : k.P.underlying t2 = some (.slice e2))
    (hi : k.P.info? e = some i0) (hx : u = .slice A m c) (hcap : sLen + m ≤ sCap) (hB : w.heap[B]? = some (.cells a T (0, 0)))
    (hnew : (Builtin.firstCells i0.size m u).run k.P w = .ok new w) (hf : ∀ v ∈ new.toList, flatV v = true) (hl : sLen * i0.size + new.size ≤ a.size) :
    (Builtin.append_ #[t, t2] ty #[.slice (some ⟨B, 0, none⟩) sLen sCap, u]).run k.P w = .ok (.slice (some ⟨B, 0, none⟩) (sLen + m) sCap) (w.setRow B (rowPut a (sLen * i0.size) new.toList)) := by
  subst hx
  have hsz : ∀ w : World, (sizeOf e).run k.P w = .ok i0.size w := fun w => by simp [sizeOf, typeInfo, hi]
  have hst := run_storeCells_at k.P B (sLen * i0.size) T new.toList 0 a w hB (by simp; omega) (fun c hc => flat_one (hf c hc))
  simp only [Nat.add_zero] at hst
  simp [Builtin.append_, run_underlying hu, run_underlying hu2, Builtin.lenOf, hcap, hsz, hnew, add_none, hst, rowPut]

theorem Cs.append {a b : Array Value} {cs ds : List SV} (h : Cs g w a cs) (ha : a.size = cs.length) (k : Cs g w b ds) : Cs g w (a ++ b) (cs ++ ds) := by
  intro i c hi
  by_cases h1 : i < cs.length
  · rw [List.getElem?_append_left h1] at hi
    have e : (a ++ b).getD i undef = a.getD i undef := by
      rw [getD_list, getD_list]
      simp [List.getD, List.getElem?_append_left (show i < a.toList.length by simp; omega)]
    rw [e]; exact h i c hi
  · rw [List.getElem?_append_right (by omega)] at hi
    have e : (a ++ b).getD i undef = b.getD (i - cs.length) undef := by
      rw [getD_list, getD_list]
      simp [List.getD, List.getElem?_append_right (show a.toList.length ≤ i by simp; omega), ha]
    rw [e]; exact k _ c hi

theorem Cs.more {a b : Array Value} {cs : List SV} (h : Cs g w a cs) (ha : cs.length ≤ a.size) : Cs g w (a ++ b) cs := by
  intro i c hi
  have h1 : i < cs.length := (List.getElem?_eq_some_iff.1 hi).1
  have e : (a ++ b).getD i undef = a.getD i undef := by
    rw [getD_list, getD_list]
    simp [List.getD, List.getElem?_append_left (show i < a.toList.length by simp; omega)]
  rw [e]; exact h i c hi

/-- What a slice that may be appended to holds. -/
theorem own_facts (hG : G w0 g S w) {u : Value} {b n : Nat} {cs : List SV} {sz len : Nat} (hx : R g w u (.sl (some b) n cs)) (hget : S.get b = .own sz len) (hl : cs.length = len) :
    b < g.n ∧ u = .slice (some ⟨g.box b, 0, none⟩) n (g.cap b) ∧ n ≤ g.cap b ∧ g.use (g.box b) = len ∧ ∃ a T, w.heap[g.box b]? = some (.cells a T (0, 0)) ∧ a.size = g.cap b * sz ∧ len ≤ a.size ∧ Cs g w a cs := by
  cases hx with
  | own b n cs f hb hc hR hn =>
    have hO := hG.obj b hb
    rw [hget] at hO
    obtain ⟨a, T, h1, h2, h3, h4⟩ := hO
    refine ⟨hb, rfl, hn, h4, a, T, h1, h2, h3, fun i c hi => ?_⟩
    have hlt : i < cs.length := (List.getElem?_eq_some_iff.1 hi).1
    have h5 := (hc i hlt).2.1
    rw [cell_of_row w _ _ a T (0, 0) h1, Nat.zero_add] at h5
    have e : a.getD i undef = f i := by rw [getD_list]; simp [List.getD, h5]
    rw [e]
    exact ⟨hR i c hi, (hc i hlt).2.2⟩

theorem arr_facts (hG : G w0 g S w) {u : Value} {b n : Nat} {cs : List SV} {sz : Nat} (hx : R g w u (.arr b n)) (hget : S.get b = .arr sz cs) :
    b < g.n ∧ u = .slice (some ⟨g.box b, 0, none⟩) n (g.cap b) ∧ n ≤ g.cap b ∧ g.use (g.box b) = 0 ∧ ∃ a T, w.heap[g.box b]? = some (.cells a T (0, 0)) ∧ a.size = g.cap b * sz ∧ cs.length ≤ a.size ∧ Cs g w a cs := by
  cases hx with
  | arr b n hb hn =>
    have hO := hG.obj b hb
    rw [hget] at hO
    obtain ⟨a, T, h1, h2, h3, h4, h5⟩ := hO
    exact ⟨hb, rfl, hn, h5, a, T, h1, h2, h3, h4⟩
end
end Go.Sv
