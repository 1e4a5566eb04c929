/- Parts of the proofs of this seat's laws. -/
import Derived.Below
import Derived.Calls
import Derived.MapKept
import Derived.Laws.World
import Derived.Laws.Rows
import Derived.Laws.Sem
import Derived.Laws.Cells
import Derived.Laws.CopyRow
import Derived.Laws.Small
import Derived.Test.YtkflapebfmcmaaaGreatBOnce00
section
set_option linter.all false
/- What an abstract value says of a value in a world; how it is kept. -/
namespace Go.Sv
open Go Go.RowKit

structure Gh where
  base : Nat
  n : Nat
  box : Nat → Nat
  cap : Nat → Nat
  use : Nat → Nat

/-- The cells from o on of block B are what f says, flat, and will stay. -/
def Cont (g : Gh) (w : World) (B o len : Nat) (f : Nat → Value) : Prop :=
  ∀ i, i < len → o + i < g.use B ∧ w.cell? ⟨B, o + i, none⟩ = some (f i) ∧ flatV (f i) = true

inductive R (g : Gh) (w : World) : Value → SV → Prop
  | v (u : Value) : R g w u (.v u)
  | top (u : Value) : R g w u .top
  | ptr (b off : Nat) : b < g.n → R g w (.pointer (some ⟨g.box b, off, none⟩)) (.ptr b off)
  | cp (B o : Nat) (cs : List SV) (f : Nat → Value) : Cont g w B o cs.length f → (∀ i c, cs[i]? = some c → R g w (f i) c) → R g w (.pointer (some ⟨B, o, none⟩)) (.cp cs)
  | sl (B o n c : Nat) (cs : List SV) (f : Nat → Value) : Cont g w B o cs.length f → (∀ i c, cs[i]? = some c → R g w (f i) c) → n ≤ c → R g w (.slice (some ⟨B, o, none⟩) n c) (.sl none n cs)
  | own (b n : Nat) (cs : List SV) (f : Nat → Value) : b < g.n → Cont g w (g.box b) 0 cs.length f → (∀ i c, cs[i]? = some c → R g w (f i) c) → n ≤ g.cap b → R g w (.slice (some ⟨g.box b, 0, none⟩) n (g.cap b)) (.sl (some b) n cs)
  | arr (b n : Nat) : b < g.n → n ≤ g.cap b → R g w (.slice (some ⟨g.box b, 0, none⟩) n (g.cap b)) (.arr b n)
  | map (b : Nat) : b < g.n → R g w (.map (some (g.box b))) (.map b)
  | func (f : FuncId) (fst cap : List SV) (fst' cap' : Array Value) : fst'.size = fst.length → (∀ i c, fst[i]? = some c → R g w (fst'.getD i undef) c) → cap'.size = cap.length → (∀ i c, cap[i]? = some c → R g w (cap'.getD i undef) c) → R g w (.func (.func f) fst' cap') (.func f fst cap)
  | yield (l : Nat) : l < g.n → R g w (.func (.yield (g.box l)) #[] #[]) (.yield l)
  | agg (cs : List SV) (cs' : Array Value) : cs'.size = cs.length → (∀ i c, cs[i]? = some c → flatV (cs'.getD i undef) = true) → (∀ i c, cs[i]? = some c → R g w (cs'.getD i undef) c) → R g w (.agg cs') (.agg cs)
  | tuple (cs : List SV) (cs' : Array Value) : cs'.size = cs.length → (∀ i c, cs[i]? = some c → R g w (cs'.getD i undef) c) → R g w (.tuple cs') (.tuple cs)
  | nil : R g w (.slice none 0 0) (.sl none 0 [])
  | emp (B o : Nat) : R g w (.slice (some ⟨B, o, none⟩) 0 0) .emp
  | nil0 : R g w (.slice none 0 0) .emp
  | slz (a : Addr) (c : Nat) : R g w (.slice (some a) 0 c) (.sl none 0 [])

/-- Lists of values. -/
def Rs (g : Gh) (w : World) (vs : List Value) (xs : List SV) : Prop := vs.length = xs.length ∧ ∀ i c, xs[i]? = some c → R g w (vs.getD i undef) c

structure Ext (g : Gh) (w : World) (g' : Gh) (w' : World) : Prop where
  base : g'.base = g.base
  n : g.n ≤ g'.n
  box : ∀ b, b < g.n → g'.box b = g.box b
  cap : ∀ b, b < g.n → g'.cap b = g.cap b
  use : ∀ B, g.use B ≤ g'.use B
  cell : ∀ B o, o < g.use B → w'.cell? ⟨B, o, none⟩ = w.cell? ⟨B, o, none⟩

theorem Ext.refl (g : Gh) (w : World) : Ext g w g w := ⟨rfl, Nat.le_refl _, fun _ _ => rfl, fun _ _ => rfl, fun _ => Nat.le_refl _, fun _ _ _ => rfl⟩

theorem Ext.trans {g g1 g2 : Gh} {w w1 w2 : World} (h : Ext g w g1 w1) (k : Ext g1 w1 g2 w2) : Ext g w g2 w2 where
  base := k.base.trans h.base
  n := Nat.le_trans h.n k.n
  box b hb := (k.box b (Nat.lt_of_lt_of_le hb h.n)).trans (h.box b hb)
  cap b hb := (k.cap b (Nat.lt_of_lt_of_le hb h.n)).trans (h.cap b hb)
  use B := Nat.le_trans (h.use B) (k.use B)
  cell B o ho := (k.cell B o (Nat.lt_of_lt_of_le ho (h.use B))).trans (h.cell B o ho)

theorem Cont.ext {g g' : Gh} {w w' : World} {B o len : Nat} {f : Nat → Value} (h : Cont g w B o len f) (e : Ext g w g' w') : Cont g' w' B o len f := by
  intro i hi
  obtain ⟨h1, h2, h3⟩ := h i hi
  exact ⟨Nat.lt_of_lt_of_le h1 (e.use B), (e.cell B (o + i) h1).trans h2, h3⟩

theorem R.ext {g g' : Gh} {w w' : World} {u : Value} {x : SV} (h : R g w u x) (e : Ext g w g' w') : R g' w' u x := by
  induction h with
  | v u => exact .v u
  | top u => exact .top u
  | ptr b off hb => rw [← e.box b hb]; exact .ptr b off (Nat.lt_of_lt_of_le hb e.n)
  | cp B o cs f hc _ ih => exact .cp B o cs f (hc.ext e) ih
  | sl B o n c cs f hc _ hn ih => exact .sl B o n c cs f (hc.ext e) ih hn
  | own b n cs f hb hc _ hn ih =>
    have h1 := hc.ext e
    rw [← e.box b hb] at h1 ⊢
    rw [← e.cap b hb] at hn ⊢
    exact .own b n cs f (Nat.lt_of_lt_of_le hb e.n) h1 ih hn
  | arr b n hb hn => rw [← e.box b hb]; rw [← e.cap b hb] at hn ⊢; exact .arr b n (Nat.lt_of_lt_of_le hb e.n) hn
  | map b hb => rw [← e.box b hb]; exact .map b (Nat.lt_of_lt_of_le hb e.n)
  | func f fst cap fst' cap' h1 _ h3 _ i2 i4 => exact .func f fst cap fst' cap' h1 i2 h3 i4
  | yield l hl => rw [← e.box l hl]; exact .yield l (Nat.lt_of_lt_of_le hl e.n)
  | agg cs cs' h1 h2 _ ih => exact .agg cs cs' h1 h2 ih
  | tuple cs cs' h1 _ ih => exact .tuple cs cs' h1 ih
  | nil => exact .nil
  | emp B o => exact .emp B o
  | nil0 => exact .nil0
  | slz a c => exact .slz a c

theorem Rs.ext {g g' : Gh} {w w' : World} {u : List Value} {x : List SV} (h : Rs g w u x) (e : Ext g w g' w') : Rs g' w' u x := ⟨h.1, fun i c hi => (h.2 i c hi).ext e⟩

/-- The temporaries. -/
def RT (g : Gh) (w : World) (tm : Array Value) (ρ : Nat → SV) : Prop := ∀ t, R g w (tm.getD t undef) (ρ t)
theorem RT.ext {g g' : Gh} {w w' : World} {u : Array Value} {x : Nat → SV} (h : RT g w u x) (e : Ext g w g' w') : RT g' w' u x := fun t => (h t).ext e

/-- Cells in a row. -/
def Cs (g : Gh) (w : World) (a : Array Value) (cs : List SV) : Prop := ∀ i c, cs[i]? = some c → R g w (a.getD i undef) c ∧ flatV (a.getD i undef) = true
theorem Cs.ext {g g' : Gh} {w w' : World} {u : Array Value} {x : List SV} (h : Cs g w u x) (e : Ext g w g' w') : Cs g' w' u x := fun i c hi => ⟨(h i c hi).1.ext e, (h i c hi).2⟩

def loopState (r : LoopRec) : LoopState := if r.busy then .busy else if r.pending.isNone then .ready else .done

/-- A loop's code is well formed for its temporaries. -/
structure LoopWf (L : Loop) : Prop where
  size : L.tmps.size ≤ 1000000
  params : ∀ t ∈ L.params.toList, t < L.tmps.size
  assign : wfC L.tmps.size (comp L.assign) = true
  body : wfC L.tmps.size (comp L.body) = true
  nda : noDef (comp L.assign) = true
  ndb : noDef (comp L.body) = true

def ObjR (g : Gh) (w : World) (b : Nat) : SObj → Prop
  | .dead => True
  | .cells cs => ∃ a T, w.heap[g.box b]? = some (.cells a T (0, 0)) ∧ a.size = cs.length ∧ Cs g w a cs ∧ g.use (g.box b) = 0
  | .arr sz cs => ∃ a T, w.heap[g.box b]? = some (.cells a T (0, 0)) ∧ a.size = g.cap b * sz ∧ cs.length ≤ a.size ∧ Cs g w a cs ∧ g.use (g.box b) = 0
  | .own sz len => ∃ a T, w.heap[g.box b]? = some (.cells a T (0, 0)) ∧ a.size = g.cap b * sz ∧ len ≤ a.size ∧ g.use (g.box b) = len
  | .map es => g.use (g.box b) = 0 ∧ ∃ a c, w.heap[g.box b]? = some (.map a c) ∧ MapKept.Stamped a c ∧ a.size = es.length ∧ ∀ i p, es[i]? = some p → (∃ y, p.1 = .v (.int .i64 y) ∧ (a.getD i default).key = .int .i64 y) ∧ R g w (a.getD i default).val p.2
  | .dfr => g.use (g.box b) = 0 ∧ w.heap[g.box b]? = some (.deferred (some []))
  | .loop r => g.use (g.box b) = 0 ∧ ∃ L : Loop, w.heap[g.box b]? = some (.loop L) ∧ L.fn = r.fn ∧ L.params.toList = r.params ∧ comp L.assign = r.assign ∧ comp L.body = r.body ∧ L.state = loopState r ∧ L.pending.map comp = r.pending ∧ LoopWf L ∧ RT g w L.tmps r.ρ

def SObj.live : SObj → Prop
  | .dead => False
  | _ => True

/-- A box is as it was. -/
theorem ObjR.ext {g g' : Gh} {w w' : World} {b : Nat} {o : SObj} (h : ObjR g w b o) (e : Ext g w g' w') (hb : b < g.n) (hh : o.live → w'.heap[g.box b]? = w.heap[g.box b]? ∧ g'.use (g.box b) = g.use (g.box b)) : ObjR g' w' b o := by
  cases o with
  | dead => trivial
  | cells cs =>
    obtain ⟨a, T, h1, h2, h3, h4⟩ := h
    obtain ⟨k1, k2⟩ := hh trivial
    exact ⟨a, T, by rw [e.box b hb, k1, h1], h2, h3.ext e, by rw [e.box b hb, k2, h4]⟩
  | arr sz cs =>
    obtain ⟨a, T, h1, h2, h3, h4, h5⟩ := h
    obtain ⟨k1, k2⟩ := hh trivial
    exact ⟨a, T, by rw [e.box b hb, k1, h1], by rw [e.cap b hb]; exact h2, h3, h4.ext e, by rw [e.box b hb, k2, h5]⟩
  | own sz len =>
    obtain ⟨a, T, h1, h2, h3, h4⟩ := h
    obtain ⟨k1, k2⟩ := hh trivial
    exact ⟨a, T, by rw [e.box b hb, k1, h1], by rw [e.cap b hb]; exact h2, h3, by rw [e.box b hb, k2, h4]⟩
  | map es =>
    obtain ⟨h0, a, c, h1, hst, h2, h3⟩ := h
    obtain ⟨k1, k2⟩ := hh trivial
    exact ⟨by rw [e.box b hb, k2, h0], a, c, by rw [e.box b hb, k1, h1], hst, h2, fun i p hp => ⟨(h3 i p hp).1, (h3 i p hp).2.ext e⟩⟩
  | dfr =>
    obtain ⟨h0, h1⟩ := h
    obtain ⟨k1, k2⟩ := hh trivial
    exact ⟨by rw [e.box b hb, k2, h0], by rw [e.box b hb, k1, h1]⟩
  | loop r =>
    obtain ⟨h0, L, h1, h2, h3, h4, h5, h6, h7, h8, h9⟩ := h
    obtain ⟨k1, k2⟩ := hh trivial
    exact ⟨by rw [e.box b hb, k2, h0], L, by rw [e.box b hb, k1, h1], h2, h3, h4, h5, h6, h7, h8, h9.ext e⟩

/-- The state says what lies in the world; w0: the world in which all began. -/
structure G (w0 : World) (g : Gh) (S : St) (w : World) : Prop where
  n : g.n = S.next
  floor : S.floor ≤ S.next
  obj : ∀ b, b < g.n → ObjR g w b (S.get b)
  lo : ∀ b, b < g.n → (S.get b).live → g.base ≤ g.box b
  ne : ∀ b b', b < g.n → b' < g.n → (S.get b).live → (S.get b').live → g.box b = g.box b' → b = b'
  fresh : ∀ B, w.heap.size ≤ B → g.use B = 0
  base : g.base ≤ w.heap.size
  below : Below g.base w0 w

/-- From one state to another. -/
structure Tr (S : St) (g : Gh) (w : World) (S' : St) (g' : Gh) (w' : World) : Prop where
  ext : Ext g w g' w'
  floor : S'.floor = S.floor
  next : S.next ≤ S'.next
  get : ∀ b, b < S.floor → S'.get b = S.get b
  heap : ∀ b, b < S.floor → (S.get b).live → w'.heap[g.box b]? = w.heap[g.box b]? ∧ g'.use (g.box b) = g.use (g.box b)
  low : ∀ B, B < g.base → g'.use B = g.use B

theorem Tr.refl (S : St) (g : Gh) (w : World) : Tr S g w S g w := ⟨.refl g w, rfl, Nat.le_refl _, fun _ _ => rfl, fun _ _ _ => ⟨rfl, rfl⟩, fun _ _ => rfl⟩

theorem Tr.trans {S S1 S2 : St} {g g1 g2 : Gh} {w w1 w2 : World} (h : Tr S g w S1 g1 w1) (k : Tr S1 g1 w1 S2 g2 w2) (hn : S.floor ≤ g.n) : Tr S g w S2 g2 w2 where
  ext := h.ext.trans k.ext
  floor := k.floor.trans h.floor
  next := Nat.le_trans h.next k.next
  get b hb := (k.get b (by rw [h.floor]; exact hb)).trans (h.get b hb)
  heap b hb hl := by
    obtain ⟨h1, h2⟩ := h.heap b hb hl
    obtain ⟨k1, k2⟩ := k.heap b (by rw [h.floor]; exact hb) (by rw [h.get b hb]; exact hl)
    rw [h.ext.box b (Nat.lt_of_lt_of_le hb hn)] at k1 k2
    exact ⟨k1.trans h1, k2.trans h2⟩
  low B hB := (k.low B (by rw [h.ext.base]; exact hB)).trans (h.low B hB)

theorem live_size {g : Gh} {w : World} {b : Nat} {o : SObj} (h : ObjR g w b o) (hl : o.live) : g.box b < w.heap.size := by
  have key : ∀ {x : Obj}, w.heap[g.box b]? = some x → g.box b < w.heap.size := fun h => (Array.getElem?_eq_some_iff.1 h).1
  cases o with
  | dead => exact hl.elim
  | cells cs => obtain ⟨a, T, h1, _⟩ := h; exact key h1
  | arr sz cs => obtain ⟨a, T, h1, _⟩ := h; exact key h1
  | own sz len => obtain ⟨a, T, h1, _⟩ := h; exact key h1
  | map es => obtain ⟨h0, a, c, h1, _⟩ := h; exact key h1
  | dfr => obtain ⟨h0, h1⟩ := h; exact key h1
  | loop r => obtain ⟨h0, L, h1, _⟩ := h; exact key h1
end Go.Sv
end
section
set_option linter.all false
/- Moves of the state: a new box, a box that is written, one that is given up. -/
namespace Go.Sv
open Go Go.RowKit

def Gh.add (g : Gh) (B c u : Nat) : Gh :=
  { g with n := g.n + 1, box := fun i => if i = g.n then B else g.box i, cap := fun i => if i = g.n then c else g.cap i, use := fun X => if X = B then u else g.use X }

theorem add_box (g : Gh) (B c u : Nat) : (g.add B c u).box g.n = B := by simp [Gh.add]
theorem add_cap (g : Gh) (B c u : Nat) : (g.add B c u).cap g.n = c := by simp [Gh.add]
theorem add_use (g : Gh) (B c u : Nat) : (g.add B c u).use B = u := by simp [Gh.add]
theorem add_box_old (g : Gh) (B c u : Nat) {b : Nat} (h : b < g.n) : (g.add B c u).box b = g.box b := by simp [Gh.add]; omega
theorem add_cap_old (g : Gh) (B c u : Nat) {b : Nat} (h : b < g.n) : (g.add B c u).cap b = g.cap b := by simp [Gh.add]; omega

/-- The world has grown; blocks that were there are as they were but for one. -/
structure Only (w w' : World) (B : Nat) : Prop where
  os : w'.os = w.os
  tape : w'.tape = w.tape
  output : w'.output = w.output
  size : w.heap.size ≤ w'.heap.size
  block : ∀ k, k < w.heap.size → k ≠ B → w'.heap[k]? = w.heap[k]?

theorem cell_block {w w' : World} {B o : Nat} (h : w'.heap[B]? = w.heap[B]?) : w'.cell? ⟨B, o, none⟩ = w.cell? ⟨B, o, none⟩ := by simp [World.cell?, h]

theorem Only.alloc (w : World) (o : Obj) (B : Nat) : Only w (w.alloc o) B := ⟨rfl, rfl, rfl, by simp, fun k hk _ => heap_alloc_old w o k hk⟩
theorem Only.setCell (w : World) (a : Addr) (v : Value) : Only w (w.setCell a v) a.block := ⟨rfl, rfl, rfl, by simp, fun k _ hk => heap_setCell_other w a k v hk⟩
theorem Only.refl (w : World) (B : Nat) : Only w w B := ⟨rfl, rfl, rfl, Nat.le_refl _, fun _ _ _ => rfl⟩
theorem Only.trans {w w1 w2 : World} {B : Nat} (h : Only w w1 B) (k : Only w1 w2 B) : Only w w2 B :=
  ⟨k.os.trans h.os, k.tape.trans h.tape, k.output.trans h.output, Nat.le_trans h.size k.size, fun i hi hb => (k.block i (Nat.lt_of_lt_of_le hi h.size) hb).trans (h.block i hi hb)⟩

theorem Only.below {w0 w w' : World} {B base : Nat} (h : Only w w' B) (hb : Below base w0 w) (hB : base ≤ B) (hs : base ≤ w.heap.size) : Below base w0 w' :=
  hb.trans ⟨h.os, h.tape, h.output, h.size, fun k hk => h.block k (by omega) (by omega)⟩

section
variable {w0 : World} {g : Gh} {S : St} {w w' : World}

theorem G.use_lt (hG : G w0 g S w) {B o : Nat} (h : o < g.use B) : B < w.heap.size := by
  · rcases Nat.lt_or_ge B w.heap.size with h1 | h1
    · exact h1
    · rw [hG.fresh B h1] at h; omega

/-- A new box over a block that no live box has: whatever has become of that block. -/
theorem G.add {B : Nat} (hG : G w0 g S w) (hw : Only w w' B) (hB : g.base ≤ B) (hlt : B < w'.heap.size)
    (hne : ∀ b, b < g.n → (S.get b).live → g.box b ≠ B) (c u : Nat) (hu : g.use B ≤ u) (hc : ∀ o, o < g.use B → w'.cell? ⟨B, o, none⟩ = w.cell? ⟨B, o, none⟩)
    (o : SObj) (hO : ObjR (g.add B c u) w' g.n o) :
    G w0 (g.add B c u) (S.alloc o) w' ∧ Tr S g w (S.alloc o) (g.add B c u) w' := by
  have hext : Ext g w (g.add B c u) w' := by
    refine ⟨rfl, Nat.le_succ _, fun b hb => add_box_old g B c u hb, fun b hb => add_cap_old g B c u hb, fun X => ?_, fun X i hX => ?_⟩
    · show g.use X ≤ if X = B then u else g.use X
      split
      · subst X; exact hu
      · exact Nat.le_refl _
    · by_cases e : X = B
      · subst e
        exact hc i hX
      · exact cell_block (hw.block X (hG.use_lt hX) e)
  have huse : ∀ X, X ≠ B → (g.add B c u).use X = g.use X := fun X hX => by simp [Gh.add, hX]
  have hold : ∀ b, b < g.n → (S.get b).live → w'.heap[g.box b]? = w.heap[g.box b]? ∧ (g.add B c u).use (g.box b) = g.use (g.box b) := fun b hb hl =>
    ⟨hw.block _ (live_size (hG.obj b hb) hl) (hne b hb hl), huse _ (hne b hb hl)⟩
  have hget : ∀ b, b < g.n → (S.alloc o).get b = S.get b := fun b hb => by
    have : b ≠ S.next := by have := hG.n; omega
    simp [St.alloc, this]
  have hnew : (S.alloc o).get g.n = o := by simp [St.alloc, hG.n]
  refine ⟨⟨?_, ?_, ?_, ?_, ?_, ?_, ?_, ?_⟩, ⟨hext, rfl, Nat.le_succ _, ?_, ?_, fun X hX => huse X (by omega)⟩⟩
  · show g.n + 1 = S.next + 1
    rw [hG.n]
  · show S.floor ≤ S.next + 1
    have := hG.floor; omega
  · intro b hb
    rcases Nat.lt_or_ge b g.n with h | h
    · rw [hget b h]; exact (hG.obj b h).ext hext h (fun hl => hold b h hl)
    · have : b = g.n := by have : b < g.n + 1 := hb; omega
      subst this; rw [hnew]; exact hO
  · intro b hb hl
    rcases Nat.lt_or_ge b g.n with h | h
    · rw [hget b h] at hl; rw [add_box_old g B c u h]; exact hG.lo b h hl
    · have : b = g.n := by have : b < g.n + 1 := hb; omega
      subst this; rw [add_box]; exact hB
  · intro b b' hb hb' hl hl' e
    rcases Nat.lt_or_ge b g.n with h | h <;> rcases Nat.lt_or_ge b' g.n with h' | h'
    · rw [hget b h] at hl; rw [hget b' h'] at hl'; rw [add_box_old g B c u h, add_box_old g B c u h'] at e
      exact hG.ne b b' h h' hl hl' e
    · have : b' = g.n := by have : b' < g.n + 1 := hb'; omega
      subst this; rw [add_box, add_box_old g B c u h] at e; rw [hget b h] at hl
      exact (hne b h hl e).elim
    · have : b = g.n := by have : b < g.n + 1 := hb; omega
      subst this; rw [add_box, add_box_old g B c u h'] at e; rw [hget b' h'] at hl'
      exact (hne b' h' hl' e.symm).elim
    · have : b < g.n + 1 := hb
      have : b' < g.n + 1 := hb'
      omega
  · intro X hX
    have : X ≠ B := by omega
    rw [huse X this]
    exact hG.fresh X (Nat.le_trans hw.size hX)
  · exact Nat.le_trans hG.base hw.size
  · exact hw.below hG.below hB hG.base
  · intro b hb; exact hget b (by have := hG.n; have := hG.floor; omega)
  · intro b hb hl; exact hold b (by have := hG.n; have := hG.floor; omega) hl

/-- A new box over a new block. -/
theorem G.alloc (hG : G w0 g S w) (O : Obj) (c u : Nat) (o : SObj) (hO : ObjR (g.add w.heap.size c u) (w.alloc O) g.n o) :
    G w0 (g.add w.heap.size c u) (S.alloc o) (w.alloc O) ∧ Tr S g w (S.alloc o) (g.add w.heap.size c u) (w.alloc O) := by
  have h0 := hG.fresh w.heap.size (Nat.le_refl _)
  refine hG.add (Only.alloc w O w.heap.size) hG.base (by simp) (fun b hb hl => ?_) c u (by rw [h0]; exact Nat.zero_le _) (fun i hi => by rw [h0] at hi; omega) o hO
  have := live_size (hG.obj b hb) hl
  omega

/-- A new block that nobody will ask for. -/
theorem G.alloc_dead (hG : G w0 g S w) (O : Obj) : G w0 g S (w.alloc O) ∧ Tr S g w S g (w.alloc O) := by
  have hext : Ext g w g (w.alloc O) := ⟨rfl, Nat.le_refl _, fun _ _ => rfl, fun _ _ => rfl, fun _ => Nat.le_refl _, fun X i hX => cell_block (heap_alloc_old w _ X (hG.use_lt hX))⟩
  have hold : ∀ b, b < g.n → (S.get b).live → (w.alloc O).heap[g.box b]? = w.heap[g.box b]? := fun b hb hl => heap_alloc_old w _ _ (live_size (hG.obj b hb) hl)
  refine ⟨⟨hG.n, hG.floor, fun b hb => (hG.obj b hb).ext hext hb (fun hl => ⟨hold b hb hl, rfl⟩), hG.lo, hG.ne, fun X hX => hG.fresh X (Nat.le_trans (by simp) hX), Nat.le_trans hG.base (by simp), hG.below.alloc hG.base O⟩, ⟨hext, rfl, Nat.le_refl _, fun _ _ => rfl, fun b hb hl => ⟨hold b (by have := hG.n; have := hG.floor; omega) hl, rfl⟩, fun _ _ => rfl⟩⟩

/-- A new row that nobody will write. -/
theorem G.alloc_keep (hG : G w0 g S w) (O : Obj) (u : Nat) : G w0 { g with use := fun X => if X = w.heap.size then u else g.use X } S (w.alloc O) ∧ Tr S g w S { g with use := fun X => if X = w.heap.size then u else g.use X } (w.alloc O) := by
  have h0 := hG.fresh w.heap.size (Nat.le_refl _)
  have hne : ∀ X, X < w.heap.size → (if X = w.heap.size then u else g.use X) = g.use X := fun X hX => if_neg (by omega)
  have hext : Ext g w { g with use := fun X => if X = w.heap.size then u else g.use X } (w.alloc O) := by
    refine ⟨rfl, Nat.le_refl _, fun _ _ => rfl, fun _ _ => rfl, fun X => ?_, fun X i hX => cell_block (heap_alloc_old w _ X (hG.use_lt hX))⟩
    show g.use X ≤ if X = w.heap.size then u else g.use X
    split
    · subst X; rw [h0]; exact Nat.zero_le _
    · exact Nat.le_refl _
  have hold : ∀ b, b < g.n → (S.get b).live → (w.alloc O).heap[g.box b]? = w.heap[g.box b]? ∧ (if g.box b = w.heap.size then u else g.use (g.box b)) = g.use (g.box b) := fun b hb hl =>
    ⟨heap_alloc_old w _ _ (live_size (hG.obj b hb) hl), hne _ (live_size (hG.obj b hb) hl)⟩
  refine ⟨⟨hG.n, hG.floor, fun b hb => (hG.obj b hb).ext hext hb (hold b hb), hG.lo, hG.ne, fun X hX => ?_, Nat.le_trans hG.base (by simp), hG.below.alloc hG.base O⟩, ⟨hext, rfl, Nat.le_refl _, fun _ _ => rfl, fun b hb hl => hold b (by have := hG.n; have := hG.floor; omega) hl, fun X hX => hne X (Nat.lt_of_lt_of_le hX hG.base)⟩⟩
  have hs : (w.alloc O).heap.size = w.heap.size + 1 := by simp
  show (if X = w.heap.size then u else g.use X) = 0
  rw [if_neg (by omega)]
  exact hG.fresh X (by omega)

/-- A box that is written. -/
theorem G.put (hG : G w0 g S w) {b : Nat} (hb : b < g.n) (hl : (S.get b).live) (hf : S.floor ≤ b) (hw : Only w w' (g.box b)) (hu : g.use (g.box b) = 0) (o : SObj) (hO : ObjR g w' b o) :
    G w0 g (S.put b o) w' ∧ Tr S g w (S.put b o) g w' := by
  have hext : Ext g w g w' := by
    refine ⟨rfl, Nat.le_refl _, fun _ _ => rfl, fun _ _ => rfl, fun _ => Nat.le_refl _, fun X i hX => ?_⟩
    refine cell_block (hw.block X (hG.use_lt hX) ?_)
    intro e
    subst e
    omega
  have hold : ∀ b', b' < g.n → b' ≠ b → (S.get b').live → w'.heap[g.box b']? = w.heap[g.box b']? := fun b' hb' hne hl' =>
    hw.block _ (live_size (hG.obj b' hb') hl') (fun e => hne (hG.ne b' b hb' hb hl' hl e))
  have hget : ∀ b', b' ≠ b → (S.put b o).get b' = S.get b' := fun b' h => by simp [St.put, h]
  have hnew : (S.put b o).get b = o := by simp [St.put]
  have hlive : ∀ b', ((S.put b o).get b').live → (S.get b').live := fun b' h => by
    by_cases e : b' = b
    · subst e; exact hl
    · rw [hget b' e] at h; exact h
  refine ⟨⟨hG.n, hG.floor, ?_, fun b' hb' h => hG.lo b' hb' (hlive b' h), fun b1 b2 h1 h2 l1 l2 e => hG.ne b1 b2 h1 h2 (hlive b1 l1) (hlive b2 l2) e, fun X hX => hG.fresh X (Nat.le_trans hw.size hX), Nat.le_trans hG.base hw.size, hw.below hG.below (hG.lo b hb hl) hG.base⟩, ⟨hext, rfl, Nat.le_refl _, fun b' hb' => hget b' (by omega), fun b' hb' hl' => ⟨hold b' (by have := hG.n; have := hG.floor; omega) (by omega) hl', rfl⟩, fun _ _ => rfl⟩⟩
  intro b' hb'
  by_cases e : b' = b
  · subst e; rw [hnew]; exact hO
  · rw [hget b' e]; exact (hG.obj b' hb').ext hext hb' (fun hl' => ⟨hold b' hb' e hl', rfl⟩)

/-- A box that is given up. -/
theorem G.kill (hG : G w0 g S w) {b : Nat} (hf : S.floor ≤ b) : G w0 g (S.put b .dead) w ∧ Tr S g w (S.put b .dead) g w := by
  have hget : ∀ b', b' ≠ b → (S.put b .dead).get b' = S.get b' := fun b' h => by simp [St.put, h]
  have hlive : ∀ b', ((S.put b .dead).get b').live → (S.get b').live := fun b' h => by
    by_cases e : b' = b
    · subst e; simp [St.put, SObj.live] at h
    · rw [hget b' e] at h; exact h
  refine ⟨⟨hG.n, hG.floor, ?_, fun b' hb' h => hG.lo b' hb' (hlive b' h), fun b1 b2 h1 h2 l1 l2 e => hG.ne b1 b2 h1 h2 (hlive b1 l1) (hlive b2 l2) e, hG.fresh, hG.base, hG.below⟩, ⟨.refl g w, rfl, Nat.le_refl _, fun b' hb' => hget b' (by omega), fun _ _ _ => ⟨rfl, rfl⟩, fun _ _ => rfl⟩⟩
  intro b' hb'
  by_cases e : b' = b
  · subst e; simp [St.put, ObjR]
  · rw [hget b' e]; exact hG.obj b' hb'

/-- Draws of the tape turn nothing. -/
theorem G.drew (hG : G w0 g S w) : G w0 g S w.drew ∧ Tr S g w S g w.drew := by
  have hext : Ext g w g w.drew := ⟨rfl, Nat.le_refl _, fun _ _ => rfl, fun _ _ => rfl, fun _ => Nat.le_refl _, fun _ _ _ => rfl⟩
  exact ⟨⟨hG.n, hG.floor, fun b hb => (hG.obj b hb).ext hext hb (fun _ => ⟨rfl, rfl⟩), hG.lo, hG.ne, hG.fresh, hG.base, hG.below.drew⟩, ⟨hext, rfl, Nat.le_refl _, fun _ _ => rfl, fun _ _ _ => ⟨rfl, rfl⟩, fun _ _ => rfl⟩⟩
end
end Go.Sv
end
section
set_option linter.all false
/- One operation: what the machine does, what is told of it. -/
namespace Go.Sv
open Go Go.RowKit

def evalT (tm : Array Value) : Operand → Value
  | .tmp t => tm.getD t undef
  | .const v => v
  | .global g => .pointer (some ⟨g, 0, none⟩)
  | .func f => .func (.func f) #[] #[]

section
variable {w0 : World} {g : Gh} {S : St} {w : World} {k : K}

theorem ev_sound {tm : Array Value} {ρ : Nat → SV} (h : RT g w tm ρ) (x : Operand) : R g w (evalT tm x) (ev ρ x) := by
  cases x with
  | tmp t => exact h t
  | const v => exact .v v
  | global i => exact .top _
  | func f => exact .func f [] [] #[] #[] rfl (by simp) rfl (by simp)

theorem flat_one {v : Value} (h : flatV v = true) : v.oneCell' = true := by cases v <;> simp_all [flatV, Value.oneCell']
theorem flat_cells {v : Value} (h : flatV v = true) : v.cells = #[v] := by cases v <;> simp_all [flatV, Value.cells]
theorem single_flat {u : Value} {x : SV} (h : R g w u x) (hs : single x = true) : flatV u = true := by
  cases h <;> simp_all [single, flatV]

theorem add_none (B o i : Nat) : (⟨B, o, none⟩ : Addr).add i = ⟨B, o + i, none⟩ := by unfold Addr.add; split <;> simp_all

theorem cells_sound {u : Value} {x : SV} {cs : List SV} (h : R g w u x) (hc : cellsOf x = some cs) : u.cells.size = cs.length ∧ Cs g w u.cells cs := by
  have one : single x = true → cs = [x] → u.cells.size = cs.length ∧ Cs g w u.cells cs := by
    intro hs hx
    have hf := single_flat h hs
    rw [flat_cells hf, hx]
    refine ⟨rfl, fun i c hi => ?_⟩
    cases i with
    | zero => simp at hi; subst hi; simpa using ⟨h, hf⟩
    | succ i => simp at hi
  cases h with
  | agg cs1 cs' h1 h2 h3 =>
    simp only [cellsOf, Option.some.injEq] at hc
    subst hc
    exact ⟨h1, fun i c hi => ⟨h3 i c hi, h2 i c hi⟩⟩
  | _ =>
    simp only [cellsOf] at hc
    split at hc
    · rename_i hs
      exact one hs (by simpa using hc.symm)
    · cases hc

theorem Cs.all_flat {a : Array Value} {cs : List SV} (h : Cs g w a cs) (hn : a.size = cs.length) : ∀ v ∈ a.toList, flatV v = true := by
  intro v hv
  obtain ⟨i, hi, hv⟩ := List.getElem_of_mem hv
  have hi' : i < cs.length := by simpa [hn] using hi
  have := (h i cs[i] (List.getElem?_eq_getElem hi')).2
  have hg : a.getD i undef = v := by
    have : i < a.size := by omega
    simp [Array.getD, this]; simpa using hv
  rwa [hg] at this

theorem rs_of_map {tm : Array Value} {ρ : Nat → SV} (h : RT g w tm ρ) (l : List Operand) : Rs g w (l.map (evalT tm)) (l.map (ev ρ)) := by
  refine ⟨by simp, fun i c hi => ?_⟩
  simp only [List.getElem?_map, Option.map_eq_some_iff] at hi
  obtain ⟨x, hx, rfl⟩ := hi
  simp only [List.getD, List.getElem?_map, hx, Option.map_some, Option.getD_some]
  exact ev_sound h x

theorem size_some {t : TypeId} {n : Nat} (h : size? k t = some n) : ∃ i, k.P.info? t = some i ∧ i.size = n := by
  simpa [size?] using h
theorem run_size {t : TypeId} {n : Nat} (h : size? k t = some n) (w : World) : (sizeOf t).run k.P w = .ok n w := by
  obtain ⟨i, hi, rfl⟩ := size_some h
  simp [sizeOf, typeInfo, hi]
theorem run_agg {t : TypeId} {b : Bool} (h : agg? k t = some b) (w : World) : (isAgg t).run k.P w = .ok b w := by
  unfold agg? at h
  unfold isAgg
  cases hu : k.P.underlying t with
  | none => simp [hu] at h
  | some d => cases d <;> simp_all [run_underlying hu]
theorem elem_some {t e : TypeId} (h : elem? k t = some e) : k.P.underlying t = some (.slice e) := by
  unfold elem? at h
  split at h
  · rename_i hu; rw [hu]; simp at h; rw [h]
  · cases h
theorem zero_some {t : TypeId} {z : List SV} (h : zero? k t = some z) : ∃ i v, k.P.info? t = some i ∧ i.zero = some v ∧ z = v.cells.toList.map .v ∧ ∀ c ∈ v.cells.toList, flatV c = true := by
  unfold zero? at h
  cases hi : k.P.info? t with
  | none => simp [hi] at h
  | some i => cases hz : i.zero with
    | none => simp [hi, hz] at h
    | some v =>
      simp only [hi, Option.bind_some, hz] at h
      split at h
      · rename_i hf
        exact ⟨i, v, rfl, hz, by simpa using h.symm, fun c hc => List.all_eq_true.1 hf c hc⟩
      · cases h
theorem run_zero {t : TypeId} {i : TypeInfo} {v : Value} (h : k.P.info? t = some i) (hz : i.zero = some v) (w : World) : (zeroValue t).run k.P w = .ok v w := by
  simp [zeroValue, typeInfo, h, hz]

/-! #### memory that is read -/
theorem row_load {B off : Nat} {a : Array Value} {T : TypeId} {fz : Nat × Nat} (hB : w.heap[B]? = some (.cells a T fz)) (i : Nat) (hi : off + i < a.size) : w.cell? ((⟨B, off, none⟩ : Addr).add i) = some (a.getD (off + i) undef) := by
  rw [add_none, cell_of_row w B (off + i) a T fz hB]
  simp [Array.getD, hi]

theorem load_of {t : TypeId} {ag : Bool} {sz : Nat} {a : Addr} {x : SV} {cs : List SV} {f : Nat → Value} (hag : agg? k t = some ag) (hsz : size? k t = some sz)
    (hc : ∀ i, i < cs.length → w.cell? (a.add i) = some (f i) ∧ flatV (f i) = true) (hR : ∀ i c, cs[i]? = some c → R g w (f i) c) (hx : takeVal ag sz cs = some x) :
    ∃ u, (loadVar t a).run k.P w = .ok u w ∧ R g w u x := by
  unfold takeVal at hx
  cases ag with
  | true =>
    simp only [if_true] at hx
    split at hx
    · rename_i hl
      simp only [Option.some.injEq] at hx
      subst hx
      refine ⟨.agg ((List.range sz).map f).toArray, ?_, ?_⟩
      · simp [loadVar, run_agg hag, run_size hsz, run_loadCells w a sz f (fun j hj => (hc j (by omega)).1)]
      · have key : ∀ i c, (cs.take sz)[i]? = some c → i < sz ∧ cs[i]? = some c ∧ ((List.range sz).map f).toArray.getD i undef = f i := by
          intro i c hi
          rw [List.getElem?_take] at hi
          split at hi
          · rename_i h; exact ⟨h, hi, by simp [Array.getD, h]⟩
          · cases hi
        refine .agg _ _ (by simp; omega) (fun i c hi => ?_) (fun i c hi => ?_)
        · obtain ⟨h1, h2, h3⟩ := key i c hi
          rw [h3]; exact (hc i (by omega)).2
        · obtain ⟨h1, h2, h3⟩ := key i c hi
          rw [h3]; exact hR i c h2
    · cases hx
  | false =>
    simp only [Bool.false_eq_true, if_false] at hx
    cases cs with
    | nil => cases hx
    | cons c r =>
      simp only [List.head?_cons, Option.some.injEq] at hx
      subst hx
      refine ⟨f 0, ?_, hR 0 c rfl⟩
      have h0 := (hc 0 (by simp)).1
      have ha : a.add 0 = a := by simp [Addr.add]
      rw [ha] at h0
      simp [loadVar, run_agg hag, h0]

theorem obj_cells {o : SObj} {b : Nat} {cs : List SV} (h : ObjR g w b o) (hc : objCells o = some cs) : ∃ a T, w.heap[g.box b]? = some (.cells a T (0, 0)) ∧ cs.length ≤ a.size ∧ Cs g w a cs := by
  cases o <;> simp [objCells] at hc
  · subst hc; obtain ⟨a, T, h1, h2, h3, _⟩ := h; exact ⟨a, T, h1, by omega, h3⟩
  · subst hc; obtain ⟨a, T, h1, h2, h3, h4, _⟩ := h; exact ⟨a, T, h1, h3, h4⟩

theorem load_sound (hG : G w0 g S w) {t : TypeId} {u : Value} {a x : SV} (ha : R g w u a) (h : loadE k t a S = some x) : ∃ v, (Instr.loadAt t u).run k.P w = .ok v w ∧ R g w v x := by
  simp only [loadE, Option.bind_eq_some_iff] at h
  obtain ⟨ag, hag, sz, hsz, h⟩ := h
  cases ha with
  | ptr b off hb =>
    simp only [Option.bind_eq_some_iff] at h
    obtain ⟨cs, hcs, h⟩ := h
    obtain ⟨arr, T, h1, h2, h3⟩ := obj_cells (hG.obj b hb) hcs
    have key : ∀ i, i < (cs.drop off).length → off + i < cs.length := fun i hi => by simp at hi; omega
    obtain ⟨v, hv, hR⟩ := load_of (k := k) (a := ⟨g.box b, off, none⟩) (cs := cs.drop off) (f := fun i => arr.getD (off + i) undef) hag hsz
      (fun i hi => ⟨row_load h1 i (by have := key i hi; omega), by
        have := key i hi
        exact (h3 (off + i) _ (List.getElem?_eq_getElem this)).2⟩)
      (fun i c hi => (h3 (off + i) c (by rwa [List.getElem?_drop] at hi)).1) h
    exact ⟨v, by simpa [Instr.loadAt, Instr.sureAddr] using hv, hR⟩
  | cp B o cs f hc hR =>
    obtain ⟨v, hv, hR⟩ := load_of (k := k) (a := ⟨B, o, none⟩) (cs := cs) (f := f) hag hsz (fun i hi => by rw [add_none]; exact ⟨(hc i hi).2.1, (hc i hi).2.2⟩) hR h
    exact ⟨v, by simpa [Instr.loadAt, Instr.sureAddr] using hv, hR⟩
  | _ => cases h

/-! #### memory that is written -/
theorem splice_get (cs ys : List SV) (off i : Nat) (h : off + ys.length ≤ cs.length) : (splice cs off ys)[i]? = if i < off then cs[i]? else if i < off + ys.length then ys[i - off]? else cs[i]? := by
  unfold splice
  rw [List.append_assoc]
  by_cases h1 : i < off
  · rw [if_pos h1, List.getElem?_append_left (by simp; omega), List.getElem?_take, if_pos h1]
  · rw [if_neg h1, List.getElem?_append_right (by simp; omega)]
    simp only [List.length_take, Nat.min_eq_left (show off ≤ cs.length by omega)]
    by_cases h2 : i < off + ys.length
    · rw [if_pos h2, List.getElem?_append_left (by omega)]
    · rw [if_neg h2, List.getElem?_append_right (by omega), List.getElem?_drop]
      congr 1; omega
theorem splice_length (cs ys : List SV) (off : Nat) (h : off + ys.length ≤ cs.length) : (splice cs off ys).length = cs.length := by
  simp [splice]; omega

/-- The row behind a store. -/
def rowPut (a : Array Value) (off : Nat) (vs : List Value) : Array Value := (a.toList.take off ++ vs ++ a.toList.drop (off + vs.length)).toArray
theorem rowPut_size (a : Array Value) (off : Nat) (vs : List Value) (h : off + vs.length ≤ a.size) : (rowPut a off vs).size = a.size := by
  simp [rowPut]; omega
theorem rowPut_get (a : Array Value) (off : Nat) (vs : List Value) (i : Nat) (h : off + vs.length ≤ a.size) : (rowPut a off vs).getD i undef = if i < off then a.getD i undef else if i < off + vs.length then vs.getD (i - off) undef else a.getD i undef := by
  have e : ∀ (b : Array Value) (j : Nat), b.getD j undef = b.toList.getD j undef := fun b j => by
    by_cases hj : j < b.size <;> simp [Array.getD, hj, List.getD]
  rw [e, e]
  simp only [rowPut, List.getD]
  rw [List.append_assoc]
  by_cases h1 : i < off
  · rw [if_pos h1, List.getElem?_append_left (by simp; omega), List.getElem?_take, if_pos h1]
  · rw [if_neg h1, List.getElem?_append_right (by simp; omega)]
    simp only [List.length_take, Array.length_toList, Nat.min_eq_left (show off ≤ a.size by omega)]
    by_cases h2 : i < off + vs.length
    · rw [if_pos h2, List.getElem?_append_left (by omega)]
    · rw [if_neg h2, List.getElem?_append_right (by omega), List.getElem?_drop]
      congr 2; omega

theorem Cs.put {a b : Array Value} {cs ys : List SV} {off : Nat} (h : Cs g w a cs) (h' : Cs g w b ys) (hb : b.size = ys.length) (hl : off + ys.length ≤ cs.length) (ha : cs.length ≤ a.size) : Cs g w (rowPut a off b.toList) (splice cs off ys) := by
  intro i c hi
  have hlen : b.toList.length = ys.length := by simp [hb]
  rw [rowPut_get a off b.toList i (by omega)]
  rw [splice_get cs ys off i hl] at hi
  by_cases h1 : i < off
  · rw [if_pos h1] at hi ⊢; exact h i c hi
  · rw [if_neg h1] at hi ⊢
    rw [hlen]
    by_cases h2 : i < off + ys.length
    · rw [if_pos h2] at hi ⊢
      have := h' (i - off) c hi
      have e : b.toList.getD (i - off) undef = b.getD (i - off) undef := by
        by_cases hj : i - off < b.size <;> simp [Array.getD, hj, List.getD]
      rw [e]; exact this
    · rw [if_neg h2] at hi ⊢; exact h i c hi

theorem only_setRow (w : World) (B : Nat) (cs : Array Value) : Only w (w.setRow B cs) B := ⟨rfl, rfl, rfl, by simp, fun i _ hi => setRow_other w B i cs hi⟩

theorem run_store_row {t : TypeId} {sz B off : Nat} {a : Array Value} {T : TypeId} {v : Value} (hsz : size? k t = some sz) (hB : w.heap[B]? = some (.cells a T (0, 0))) (hv : v.cells.size = sz) (hf : ∀ c ∈ v.cells.toList, flatV c = true) (hl : off + sz ≤ a.size) :
    (Instr.storeAt t (.pointer (some ⟨B, off, none⟩)) v).run k.P w = .ok () (w.setRow B (rowPut a off v.cells.toList)) := by
  have h := run_storeCells_at k.P B off T v.cells.toList 0 a w hB (by simp [hv]; omega) (fun c hc => flat_one (hf c hc))
  simp only [Nat.add_zero] at h
  simp [Instr.storeAt, Instr.sureAddr, storeVar, run_size hsz, hv, h, rowPut]

theorem store_sound (hG : G w0 g S w) {t : TypeId} {u v : Value} {a x : SV} {S' : St} (ha : R g w u a) (hx : R g w v x) (h : storeE k t a x S = some S') : ∃ w', (Instr.storeAt t u v).run k.P w = .ok () w' ∧ G w0 g S' w' ∧ Tr S g w S' g w' := by
  simp only [storeE, Option.bind_eq_some_iff] at h
  obtain ⟨sz, hsz, ys, hys, h⟩ := h
  obtain ⟨hn, hCs⟩ := cells_sound hx hys
  have hf := hCs.all_flat hn
  cases ha with
  | ptr b off hb =>
    simp only [] at h
    split at h
    · rename_i hc
      obtain ⟨hfl, hlen⟩ := hc
      split at h
      · rename_i cs hget
        split at h
        · rename_i hle
          simp only [Option.some.injEq] at h
          subst h
          have hO := hG.obj b hb
          rw [hget] at hO
          obtain ⟨arr, T, h1, h2, h3, h4⟩ := hO
          have hrun := run_store_row (k := k) (v := v) hsz h1 (by omega) hf (off := off) (by omega)
          have hrow := setRow_heap w (g.box b) arr (rowPut arr off v.cells.toList) T (0, 0) h1
          have := hG.put (w' := w.setRow (g.box b) (rowPut arr off v.cells.toList)) hb (by rw [hget]; trivial) hfl (only_setRow _ _ _) h4 (.cells (splice cs off ys)) ?_
          · exact ⟨_, hrun, this⟩
          · have hext : Ext g w g (w.setRow (g.box b) (rowPut arr off v.cells.toList)) := by
              refine ⟨rfl, Nat.le_refl _, fun _ _ => rfl, fun _ _ => rfl, fun _ => Nat.le_refl _, fun X i hX => cell_setRow_other w (g.box b) _ _ ?_⟩
              intro e
              have e : X = g.box b := e
              subst e
              have := hG.lo b hb (by rw [hget]; trivial)
              omega
            refine ⟨_, T, hrow, ?_, ?_, h4⟩
            · rw [rowPut_size _ _ _ (by simp; omega), splice_length _ _ _ hle, h2]
            · exact (h3.put hCs hn hle (by omega)).ext hext
        · cases h
      · rename_i s cs hget
        split at h
        · rename_i hle
          simp only [Option.some.injEq] at h
          subst h
          have hO := hG.obj b hb
          rw [hget] at hO
          obtain ⟨arr, T, h1, h2, h3, h5, h4⟩ := hO
          have hrun := run_store_row (k := k) (v := v) hsz h1 (by omega) hf (off := off) (by omega)
          have hrow := setRow_heap w (g.box b) arr (rowPut arr off v.cells.toList) T (0, 0) h1
          have := hG.put (w' := w.setRow (g.box b) (rowPut arr off v.cells.toList)) hb (by rw [hget]; trivial) hfl (only_setRow _ _ _) h4 (.arr s (splice cs off ys)) ?_
          · exact ⟨_, hrun, this⟩
          · have hext : Ext g w g (w.setRow (g.box b) (rowPut arr off v.cells.toList)) := by
              refine ⟨rfl, Nat.le_refl _, fun _ _ => rfl, fun _ _ => rfl, fun _ => Nat.le_refl _, fun X i hX => cell_setRow_other w (g.box b) _ _ ?_⟩
              intro e
              have e : X = g.box b := e
              subst e
              have := hG.lo b hb (by rw [hget]; trivial)
              omega
            have hz : (rowPut arr off v.cells.toList).size = arr.size := rowPut_size _ _ _ (by simp; omega)
            refine ⟨_, T, hrow, by rw [hz, h2], by rw [hz, splice_length _ _ _ hle]; exact h3, ?_, h4⟩
            exact (h5.put hCs hn hle h3).ext hext
        · cases h
      · cases h
    · cases h
  | _ => cases h
end
end Go.Sv
end
