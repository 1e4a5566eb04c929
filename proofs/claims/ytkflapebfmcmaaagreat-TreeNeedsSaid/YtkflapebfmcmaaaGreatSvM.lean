/- A part of the proofs of this seat's laws: an interpreter of the program's form, its soundness against the model, or what it answers on this program. -/
/- Moves of the state: a new box, a box that is written, one that is given up. -/
import Derived.Test.YtkflapebfmcmaaaGreatSvR
import Derived.Laws.World
import Derived.Laws.Rows
import Derived.Laws.Sem
namespace Go.Sv
open Go Go.RowKit

def Gh.add (g : Gh) (B c u : Nat) : Gh :=
  { g with n := g.n + 1, box := fun i => if i = g.n then B else g.box i, cap := fun i => if i = g.n then c else g.cap i, use := fun X => if X = B then u else g.use X }

theorem add_box (g : Gh) (B c u : Nat) : (g.add B c u).box g.n = B := by simp [Gh.add]
theorem add_cap (g : Gh) (B c u : Nat) : (g.add B c u).cap g.n = c := by simp [Gh.add]
theorem add_use (g : Gh) (B c u : Nat) : (g.add B c u).use B = u := by simp [Gh.add]
theorem add_box_old (g : Gh) (B c u : Nat) {b : Nat} (h : b < g.n) : (g.add B c u).box b = g.box b := by simp [Gh.add]; omega
theorem add_cap_old (g : Gh) (B c u : Nat) {b : Nat} (h : b < g.n) : (g.add B c u).cap b = g.cap b := by simp [Gh.add]; omega

/-- The world has grown; blocks that were there are as they were but for one. -/
structure Only (w w' : World) (B : Nat) : Prop where
  os : w'.os = w.os
  tape : w'.tape = w.tape
  output : w'.output = w.output
  size : w.heap.size ≤ w'.heap.size
  block : ∀ k, k < w.heap.size → k ≠ B → w'.heap[k]? = w.heap[k]?

theorem cell_block {w w' : World} {B o : Nat} (h : w'.heap[B]? = w.heap[B]?) : w'.cell? ⟨B, o, none⟩ = w.cell? ⟨B, o, none⟩ := by simp [World.cell?, h]

theorem Only.alloc (w : World) (o : Obj) (B : Nat) : Only w (w.alloc o) B := ⟨rfl, rfl, rfl, by simp, fun k hk _ => heap_alloc_old w o k hk⟩
theorem Only.setCell (w : World) (a : Addr) (v : Value) : Only w (w.setCell a v) a.block := ⟨rfl, rfl, rfl, by simp, fun k _ hk => heap_setCell_other w a k v hk⟩
theorem Only.refl (w : World) (B : Nat) : Only w w B := ⟨rfl, rfl, rfl, Nat.le_refl _, fun _ _ _ => rfl⟩
theorem Only.trans {w w1 w2 : World} {B : Nat} (h : Only w w1 B) (k : Only w1 w2 B) : Only w w2 B :=
  ⟨k.os.trans h.os, k.tape.trans h.tape, k.output.trans h.output, Nat.le_trans h.size k.size, fun i hi hb => (k.block i (Nat.lt_of_lt_of_le hi h.size) hb).trans (h.block i hi hb)⟩

theorem Only.below {w0 w w' : World} {B base : Nat} (h : Only w w' B) (hb : Below base w0 w) (hB : base ≤ B) (hs : base ≤ w.heap.size) : Below base w0 w' :=
  hb.trans ⟨h.os, h.tape, h.output, h.size, fun k hk => h.block k (by omega) (by omega)⟩

section
variable {w0 : World} {g : Gh} {S : St} {w w' : World}

theorem G.use_lt (hG : G w0 g S w) {B o : Nat} (h : o < g.use B) : B < w.heap.size := by
  · rcases Nat.lt_or_ge B w.heap.size with h1 | h1
    · exact h1
    · rw [hG.fresh B h1] at h; omega

/-- A new box over a block that no live box has: whatever has become of that block. -/
theorem G.add {B : Nat} (hG : G w0 g S w) (hw : Only w w' B) (hB : g.base ≤ B) (hlt : B < w'.heap.size)
    (hne : ∀ b, b < g.n → (S.get b).live → g.box b ≠ B) (c u : Nat) (hu : g.use B ≤ u) (hc : ∀ o, o < g.use B → w'.cell? ⟨B, o, none⟩ = w.cell? ⟨B, o, none⟩)
    (o : SObj) (hO : ObjR (g.add B c u) w' g.n o) :
    G w0 (g.add B c u) (S.alloc o) w' ∧ Tr S g w (S.alloc o) (g.add B c u) w' := by
  have hext : Ext g w (g.add B c u) w' := by
    refine ⟨rfl, Nat.le_succ _, fun b hb => add_box_old g B c u hb, fun b hb => add_cap_old g B c u hb, fun X => ?_, fun X i hX => ?_⟩
    · show g.use X ≤ if X = B then u else g.use X
      split
      · subst X; exact hu
      · exact Nat.le_refl _
    · by_cases e : X = B
      · subst e
        exact hc i hX
      · exact cell_block (hw.block X (hG.use_lt hX) e)
  have huse : ∀ X, X ≠ B → (g.add B c u).use X = g.use X := fun X hX => by simp [Gh.add, hX]
  have hold : ∀ b, b < g.n → (S.get b).live → w'.heap[g.box b]? = w.heap[g.box b]? ∧ (g.add B c u).use (g.box b) = g.use (g.box b) := fun b hb hl =>
    ⟨hw.block _ (live_size (hG.obj b hb) hl) (hne b hb hl), huse _ (hne b hb hl)⟩
  have hget : ∀ b, b < g.n → (S.alloc o).get b = S.get b := fun b hb => by
    have : b ≠ S.next := by have := hG.n; omega
    simp [St.alloc, this]
  have hnew : (S.alloc o).get g.n = o := by simp [St.alloc, hG.n]
  refine ⟨⟨?_, ?_, ?_, ?_, ?_, ?_, ?_, ?_⟩, ⟨hext, rfl, Nat.le_succ _, ?_, ?_, fun X hX => huse X (by omega)⟩⟩
  · show g.n + 1 = S.next + 1
    rw [hG.n]
  · show S.floor ≤ S.next + 1
    have := hG.floor; omega
  · intro b hb
    rcases Nat.lt_or_ge b g.n with h | h
    · rw [hget b h]; exact (hG.obj b h).ext hext h (fun hl => hold b h hl)
    · have : b = g.n := by have : b < g.n + 1 := hb; omega
      subst this; rw [hnew]; exact hO
  · intro b hb hl
    rcases Nat.lt_or_ge b g.n with h | h
    · rw [hget b h] at hl; rw [add_box_old g B c u h]; exact hG.lo b h hl
    · have : b = g.n := by have : b < g.n + 1 := hb; omega
      subst this; rw [add_box]; exact hB
  · intro b b' hb hb' hl hl' e
    rcases Nat.lt_or_ge b g.n with h | h <;> rcases Nat.lt_or_ge b' g.n with h' | h'
    · rw [hget b h] at hl; rw [hget b' h'] at hl'; rw [add_box_old g B c u h, add_box_old g B c u h'] at e
      exact hG.ne b b' h h' hl hl' e
    · have : b' = g.n := by have : b' < g.n + 1 := hb'; omega
      subst this; rw [add_box, add_box_old g B c u h] at e; rw [hget b h] at hl
      exact (hne b h hl e).elim
    · have : b = g.n := by have : b < g.n + 1 := hb; omega
      subst this; rw [add_box, add_box_old g B c u h'] at e; rw [hget b' h'] at hl'
      exact (hne b' h' hl' e.symm).elim
    · have : b < g.n + 1 := hb
      have : b' < g.n + 1 := hb'
      omega
  · intro X hX
    have : X ≠ B := by omega
    rw [huse X this]
    exact hG.fresh X (Nat.le_trans hw.size hX)
  · exact Nat.le_trans hG.base hw.size
  · exact hw.below hG.below hB hG.base
  · intro b hb; exact hget b (by have := hG.n; have := hG.floor; omega)
  · intro b hb hl; exact hold b (by have := hG.n; have := hG.floor; omega) hl

/-- A new box over a new block. -/
theorem G.alloc (hG : G w0 g S w) (O : Obj) (c u : Nat) (o : SObj) (hO : ObjR (g.add w.heap.size c u) (w.alloc O) g.n o) :
    G w0 (g.add w.heap.size c u) (S.alloc o) (w.alloc O) ∧ Tr S g w (S.alloc o) (g.add w.heap.size c u) (w.alloc O) := by
  have h0 := hG.fresh w.heap.size (Nat.le_refl _)
  refine hG.add (Only.alloc w O w.heap.size) hG.base (by simp) (fun b hb hl => ?_) c u (by rw [h0]; exact Nat.zero_le _) (fun i hi => by rw [h0] at hi; omega) o hO
  have := live_size (hG.obj b hb) hl
  omega

/-- A new block that nobody will ask for. -/
theorem G.alloc_dead (hG : G w0 g S w) (O : Obj) : G w0 g S (w.alloc O) ∧ Tr S g w S g (w.alloc O) := by
  have hext : Ext g w g (w.alloc O) := ⟨rfl, Nat.le_refl _, fun _ _ => rfl, fun _ _ => rfl, fun _ => Nat.le_refl _, fun X i hX => cell_block (heap_alloc_old w _ X (hG.use_lt hX))⟩
  have hold : ∀ b, b < g.n → (S.get b).live → (w.alloc O).heap[g.box b]? = w.heap[g.box b]? := fun b hb hl => heap_alloc_old w _ _ (live_size (hG.obj b hb) hl)
  refine ⟨⟨hG.n, hG.floor, fun b hb => (hG.obj b hb).ext hext hb (fun hl => ⟨hold b hb hl, rfl⟩), hG.lo, hG.ne, fun X hX => hG.fresh X (Nat.le_trans (by simp) hX), Nat.le_trans hG.base (by simp), hG.below.alloc hG.base O⟩, ⟨hext, rfl, Nat.le_refl _, fun _ _ => rfl, fun b hb hl => ⟨hold b (by have := hG.n; have := hG.floor; omega) hl, rfl⟩, fun _ _ => rfl⟩⟩

/-- A new row that nobody will write. -/
theorem G.alloc_keep (hG : G w0 g S w) (O : Obj) (u : Nat) : G w0 { g with use := fun X => if X = w.heap.size then u else g.use X } S (w.alloc O) ∧ Tr S g w S { g with use := fun X => if X = w.heap.size then u else g.use X } (w.alloc O) := by
  have h0 := hG.fresh w.heap.size (Nat.le_refl _)
  have hne : ∀ X, X < w.heap.size → (if X = w.heap.size then u else g.use X) = g.use X := fun X hX => if_neg (by omega)
  have hext : Ext g w { g with use := fun X => if X = w.heap.size then u else g.use X } (w.alloc O) := by
    refine ⟨rfl, Nat.le_refl _, fun _ _ => rfl, fun _ _ => rfl, fun X => ?_, fun X i hX => cell_block (heap_alloc_old w _ X (hG.use_lt hX))⟩
    show g.use X ≤ if X = w.heap.size then u else g.use X
    split
    · subst X; rw [h0]; exact Nat.zero_le _
    · exact Nat.le_refl _
  have hold : ∀ b, b < g.n → (S.get b).live → (w.alloc O).heap[g.box b]? = w.heap[g.box b]? ∧ (if g.box b = w.heap.size then u else g.use (g.box b)) = g.use (g.box b) := fun b hb hl =>
    ⟨heap_alloc_old w _ _ (live_size (hG.obj b hb) hl), hne _ (live_size (hG.obj b hb) hl)⟩
  refine ⟨⟨hG.n, hG.floor, fun b hb => (hG.obj b hb).ext hext hb (hold b hb), hG.lo, hG.ne, fun X hX => ?_, Nat.le_trans hG.base (by simp), hG.below.alloc hG.base O⟩, ⟨hext, rfl, Nat.le_refl _, fun _ _ => rfl, fun b hb hl => hold b (by have := hG.n; have := hG.floor; omega) hl, fun X hX => hne X (Nat.lt_of_lt_of_le hX hG.base)⟩⟩
  have hs : (w.alloc O).heap.size = w.heap.size + 1 := by simp
  show (if X = w.heap.size then u else g.use X) = 0
  rw [if_neg (by omega)]
  exact hG.fresh X (by omega)

/-- A box that is written. -/
theorem G.put (hG : G w0 g S w) {b : Nat} (hb : b < g.n) (hl : (S.get b).live) (hf : S.floor ≤ b) (hw : Only w w' (g.box b)) (hu : g.use (g.box b) = 0) (o : SObj) (hO : ObjR g w' b o) :
    G w0 g (S.put b o) w' ∧ Tr S g w (S.put b o) g w' := by
  have hext : Ext g w g w' := by
    refine ⟨rfl, Nat.le_refl _, fun _ _ => rfl, fun _ _ => rfl, fun _ => Nat.le_refl _, fun X i hX => ?_⟩
    refine cell_block (hw.block X (hG.use_lt hX) ?_)
    intro e
    subst e
    omega
  have hold : ∀ b', b' < g.n → b' ≠ b → (S.get b').live → w'.heap[g.box b']? = w.heap[g.box b']? := fun b' hb' hne hl' =>
    hw.block _ (live_size (hG.obj b' hb') hl') (fun e => hne (hG.ne b' b hb' hb hl' hl e))
  have hget : ∀ b', b' ≠ b → (S.put b o).get b' = S.get b' := fun b' h => by simp [St.put, h]
  have hnew : (S.put b o).get b = o := by simp [St.put]
  have hlive : ∀ b', ((S.put b o).get b').live → (S.get b').live := fun b' h => by
    by_cases e : b' = b
    · subst e; exact hl
    · rw [hget b' e] at h; exact h
  refine ⟨⟨hG.n, hG.floor, ?_, fun b' hb' h => hG.lo b' hb' (hlive b' h), fun b1 b2 h1 h2 l1 l2 e => hG.ne b1 b2 h1 h2 (hlive b1 l1) (hlive b2 l2) e, fun X hX => hG.fresh X (Nat.le_trans hw.size hX), Nat.le_trans hG.base hw.size, hw.below hG.below (hG.lo b hb hl) hG.base⟩, ⟨hext, rfl, Nat.le_refl _, fun b' hb' => hget b' (by omega), fun b' hb' hl' => ⟨hold b' (by have := hG.n; have := hG.floor; omega) (by omega) hl', rfl⟩, fun _ _ => rfl⟩⟩
  intro b' hb'
  by_cases e : b' = b
  · subst e; rw [hnew]; exact hO
  · rw [hget b' e]; exact (hG.obj b' hb').ext hext hb' (fun hl' => ⟨hold b' hb' e hl', rfl⟩)

/-- A box that is given up. -/
theorem G.kill (hG : G w0 g S w) {b : Nat} (hf : S.floor ≤ b) : G w0 g (S.put b .dead) w ∧ Tr S g w (S.put b .dead) g w := by
  have hget : ∀ b', b' ≠ b → (S.put b .dead).get b' = S.get b' := fun b' h => by simp [St.put, h]
  have hlive : ∀ b', ((S.put b .dead).get b').live → (S.get b').live := fun b' h => by
    by_cases e : b' = b
    · subst e; simp [St.put, SObj.live] at h
    · rw [hget b' e] at h; exact h
  refine ⟨⟨hG.n, hG.floor, ?_, fun b' hb' h => hG.lo b' hb' (hlive b' h), fun b1 b2 h1 h2 l1 l2 e => hG.ne b1 b2 h1 h2 (hlive b1 l1) (hlive b2 l2) e, hG.fresh, hG.base, hG.below⟩, ⟨.refl g w, rfl, Nat.le_refl _, fun b' hb' => hget b' (by omega), fun _ _ _ => ⟨rfl, rfl⟩, fun _ _ => rfl⟩⟩
  intro b' hb'
  by_cases e : b' = b
  · subst e; simp [St.put, ObjR]
  · rw [hget b' e]; exact hG.obj b' hb'

/-- Draws of the tape turn nothing. -/
theorem G.drew (hG : G w0 g S w) : G w0 g S w.drew ∧ Tr S g w S g w.drew := by
  have hext : Ext g w g w.drew := ⟨rfl, Nat.le_refl _, fun _ _ => rfl, fun _ _ => rfl, fun _ => Nat.le_refl _, fun _ _ _ => rfl⟩
  exact ⟨⟨hG.n, hG.floor, fun b hb => (hG.obj b hb).ext hext hb (fun _ => ⟨rfl, rfl⟩), hG.lo, hG.ne, hG.fresh, hG.base, hG.below.drew⟩, ⟨hext, rfl, Nat.le_refl _, fun _ _ => rfl, fun _ _ _ => ⟨rfl, rfl⟩, fun _ _ => rfl⟩⟩
end
end Go.Sv
