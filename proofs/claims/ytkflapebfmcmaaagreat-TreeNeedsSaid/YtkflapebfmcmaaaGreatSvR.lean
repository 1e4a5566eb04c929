/- A part of the proofs of this seat's laws: an interpreter of the program's form, its soundness against the model, or what it answers on this program. -/
/- What an abstract value says of a value in a world; how it is kept. -/
import Derived.Test.YtkflapebfmcmaaaGreatSv
import Derived.Below
import Derived.Calls
import Derived.MapKept
namespace Go.Sv
open Go Go.RowKit

structure Gh where
  base : Nat
  n : Nat
  box : Nat → Nat
  cap : Nat → Nat
  use : Nat → Nat

/-- The cells from o on of block B are what f says, flat, and will stay. -/
def Cont (g : Gh) (w : World) (B o len : Nat) (f : Nat → Value) : Prop :=
  ∀ i, i < len → o + i < g.use B ∧ w.cell? ⟨B, o + i, none⟩ = some (f i) ∧ flatV (f i) = true

inductive R (g : Gh) (w : World) : Value → SV → Prop
  | v (u : Value) : R g w u (.v u)
  | top (u : Value) : R g w u .top
  | ptr (b off : Nat) : b < g.n → R g w (.pointer (some ⟨g.box b, off, none⟩)) (.ptr b off)
  | cp (B o : Nat) (cs : List SV) (f : Nat → Value) : Cont g w B o cs.length f → (∀ i c, cs[i]? = some c → R g w (f i) c) → R g w (.pointer (some ⟨B, o, none⟩)) (.cp cs)
  | sl (B o n c : Nat) (cs : List SV) (f : Nat → Value) : Cont g w B o cs.length f → (∀ i c, cs[i]? = some c → R g w (f i) c) → n ≤ c → R g w (.slice (some ⟨B, o, none⟩) n c) (.sl none n cs)
  | own (b n : Nat) (cs : List SV) (f : Nat → Value) : b < g.n → Cont g w (g.box b) 0 cs.length f → (∀ i c, cs[i]? = some c → R g w (f i) c) → n ≤ g.cap b → R g w (.slice (some ⟨g.box b, 0, none⟩) n (g.cap b)) (.sl (some b) n cs)
  | arr (b n : Nat) : b < g.n → n ≤ g.cap b → R g w (.slice (some ⟨g.box b, 0, none⟩) n (g.cap b)) (.arr b n)
  | map (b : Nat) : b < g.n → R g w (.map (some (g.box b))) (.map b)
  | func (f : FuncId) (fst cap : List SV) (fst' cap' : Array Value) : fst'.size = fst.length → (∀ i c, fst[i]? = some c → R g w (fst'.getD i undef) c) → cap'.size = cap.length → (∀ i c, cap[i]? = some c → R g w (cap'.getD i undef) c) → R g w (.func (.func f) fst' cap') (.func f fst cap)
  | yield (l : Nat) : l < g.n → R g w (.func (.yield (g.box l)) #[] #[]) (.yield l)
  | agg (cs : List SV) (cs' : Array Value) : cs'.size = cs.length → (∀ i c, cs[i]? = some c → flatV (cs'.getD i undef) = true) → (∀ i c, cs[i]? = some c → R g w (cs'.getD i undef) c) → R g w (.agg cs') (.agg cs)
  | tuple (cs : List SV) (cs' : Array Value) : cs'.size = cs.length → (∀ i c, cs[i]? = some c → R g w (cs'.getD i undef) c) → R g w (.tuple cs') (.tuple cs)
  | nil : R g w (.slice none 0 0) (.sl none 0 [])
  | emp (B o : Nat) : R g w (.slice (some ⟨B, o, none⟩) 0 0) .emp
  | nil0 : R g w (.slice none 0 0) .emp
  | slz (a : Addr) (c : Nat) : R g w (.slice (some a) 0 c) (.sl none 0 [])

/-- Lists of values. -/
def Rs (g : Gh) (w : World) (vs : List Value) (xs : List SV) : Prop := vs.length = xs.length ∧ ∀ i c, xs[i]? = some c → R g w (vs.getD i undef) c

structure Ext (g : Gh) (w : World) (g' : Gh) (w' : World) : Prop where
  base : g'.base = g.base
  n : g.n ≤ g'.n
  box : ∀ b, b < g.n → g'.box b = g.box b
  cap : ∀ b, b < g.n → g'.cap b = g.cap b
  use : ∀ B, g.use B ≤ g'.use B
  cell : ∀ B o, o < g.use B → w'.cell? ⟨B, o, none⟩ = w.cell? ⟨B, o, none⟩

theorem Ext.refl (g : Gh) (w : World) : Ext g w g w := ⟨rfl, Nat.le_refl _, fun _ _ => rfl, fun _ _ => rfl, fun _ => Nat.le_refl _, fun _ _ _ => rfl⟩

theorem Ext.trans {g g1 g2 : Gh} {w w1 w2 : World} (h : Ext g w g1 w1) (k : Ext g1 w1 g2 w2) : Ext g w g2 w2 where
  base := k.base.trans h.base
  n := Nat.le_trans h.n k.n
  box b hb := (k.box b (Nat.lt_of_lt_of_le hb h.n)).trans (h.box b hb)
  cap b hb := (k.cap b (Nat.lt_of_lt_of_le hb h.n)).trans (h.cap b hb)
  use B := Nat.le_trans (h.use B) (k.use B)
  cell B o ho := (k.cell B o (Nat.lt_of_lt_of_le ho (h.use B))).trans (h.cell B o ho)

theorem Cont.ext {g g' : Gh} {w w' : World} {B o len : Nat} {f : Nat → Value} (h : Cont g w B o len f) (e : Ext g w g' w') : Cont g' w' B o len f := by
  intro i hi
  obtain ⟨h1, h2, h3⟩ := h i hi
  exact ⟨Nat.lt_of_lt_of_le h1 (e.use B), (e.cell B (o + i) h1).trans h2, h3⟩

theorem R.ext {g g' : Gh} {w w' : World} {u : Value} {x : SV} (h : R g w u x) (e : Ext g w g' w') : R g' w' u x := by
  induction h with
  | v u => exact .v u
  | top u => exact .top u
  | ptr b off hb => rw [← e.box b hb]; exact .ptr b off (Nat.lt_of_lt_of_le hb e.n)
  | cp B o cs f hc _ ih => exact .cp B o cs f (hc.ext e) ih
  | sl B o n c cs f hc _ hn ih => exact .sl B o n c cs f (hc.ext e) ih hn
  | own b n cs f hb hc _ hn ih =>
    have h1 := hc.ext e
    rw [← e.box b hb] at h1 ⊢
    rw [← e.cap b hb] at hn ⊢
    exact .own b n cs f (Nat.lt_of_lt_of_le hb e.n) h1 ih hn
  | arr b n hb hn => rw [← e.box b hb]; rw [← e.cap b hb] at hn ⊢; exact .arr b n (Nat.lt_of_lt_of_le hb e.n) hn
  | map b hb => rw [← e.box b hb]; exact .map b (Nat.lt_of_lt_of_le hb e.n)
  | func f fst cap fst' cap' h1 _ h3 _ i2 i4 => exact .func f fst cap fst' cap' h1 i2 h3 i4
  | yield l hl => rw [← e.box l hl]; exact .yield l (Nat.lt_of_lt_of_le hl e.n)
  | agg cs cs' h1 h2 _ ih => exact .agg cs cs' h1 h2 ih
  | tuple cs cs' h1 _ ih => exact .tuple cs cs' h1 ih
  | nil => exact .nil
  | emp B o => exact .emp B o
  | nil0 => exact .nil0
  | slz a c => exact .slz a c

theorem Rs.ext {g g' : Gh} {w w' : World} {u : List Value} {x : List SV} (h : Rs g w u x) (e : Ext g w g' w') : Rs g' w' u x := ⟨h.1, fun i c hi => (h.2 i c hi).ext e⟩

/-- The temporaries. -/
def RT (g : Gh) (w : World) (tm : Array Value) (ρ : Nat → SV) : Prop := ∀ t, R g w (tm.getD t undef) (ρ t)
theorem RT.ext {g g' : Gh} {w w' : World} {u : Array Value} {x : Nat → SV} (h : RT g w u x) (e : Ext g w g' w') : RT g' w' u x := fun t => (h t).ext e

/-- Cells in a row. -/
def Cs (g : Gh) (w : World) (a : Array Value) (cs : List SV) : Prop := ∀ i c, cs[i]? = some c → R g w (a.getD i undef) c ∧ flatV (a.getD i undef) = true
theorem Cs.ext {g g' : Gh} {w w' : World} {u : Array Value} {x : List SV} (h : Cs g w u x) (e : Ext g w g' w') : Cs g' w' u x := fun i c hi => ⟨(h i c hi).1.ext e, (h i c hi).2⟩

def loopState (r : LoopRec) : LoopState := if r.busy then .busy else if r.pending.isNone then .ready else .done

/-- A loop's code is well formed for its temporaries. -/
structure LoopWf (L : Loop) : Prop where
  size : L.tmps.size ≤ 1000000
  params : ∀ t ∈ L.params.toList, t < L.tmps.size
  assign : wfC L.tmps.size (comp L.assign) = true
  body : wfC L.tmps.size (comp L.body) = true
  nda : noDef (comp L.assign) = true
  ndb : noDef (comp L.body) = true

def ObjR (g : Gh) (w : World) (b : Nat) : SObj → Prop
  | .dead => True
  | .cells cs => ∃ a T, w.heap[g.box b]? = some (.cells a T (0, 0)) ∧ a.size = cs.length ∧ Cs g w a cs ∧ g.use (g.box b) = 0
  | .arr sz cs => ∃ a T, w.heap[g.box b]? = some (.cells a T (0, 0)) ∧ a.size = g.cap b * sz ∧ cs.length ≤ a.size ∧ Cs g w a cs ∧ g.use (g.box b) = 0
  | .own sz len => ∃ a T, w.heap[g.box b]? = some (.cells a T (0, 0)) ∧ a.size = g.cap b * sz ∧ len ≤ a.size ∧ g.use (g.box b) = len
  | .map es => g.use (g.box b) = 0 ∧ ∃ a c, w.heap[g.box b]? = some (.map a c) ∧ MapKept.Stamped a c ∧ a.size = es.length ∧ ∀ i p, es[i]? = some p → (∃ y, p.1 = .v (.int .i64 y) ∧ (a.getD i default).key = .int .i64 y) ∧ R g w (a.getD i default).val p.2
  | .dfr => g.use (g.box b) = 0 ∧ w.heap[g.box b]? = some (.deferred (some []))
  | .loop r => g.use (g.box b) = 0 ∧ ∃ L : Loop, w.heap[g.box b]? = some (.loop L) ∧ L.fn = r.fn ∧ L.params.toList = r.params ∧ comp L.assign = r.assign ∧ comp L.body = r.body ∧ L.state = loopState r ∧ L.pending.map comp = r.pending ∧ LoopWf L ∧ RT g w L.tmps r.ρ

def SObj.live : SObj → Prop
  | .dead => False
  | _ => True

/-- A box is as it was. -/
theorem ObjR.ext {g g' : Gh} {w w' : World} {b : Nat} {o : SObj} (h : ObjR g w b o) (e : Ext g w g' w') (hb : b < g.n) (hh : o.live → w'.heap[g.box b]? = w.heap[g.box b]? ∧ g'.use (g.box b) = g.use (g.box b)) : ObjR g' w' b o := by
  cases o with
  | dead => trivial
  | cells cs =>
    obtain ⟨a, T, h1, h2, h3, h4⟩ := h
    obtain ⟨k1, k2⟩ := hh trivial
    exact ⟨a, T, by rw [e.box b hb, k1, h1], h2, h3.ext e, by rw [e.box b hb, k2, h4]⟩
  | arr sz cs =>
    obtain ⟨a, T, h1, h2, h3, h4, h5⟩ := h
    obtain ⟨k1, k2⟩ := hh trivial
    exact ⟨a, T, by rw [e.box b hb, k1, h1], by rw [e.cap b hb]; exact h2, h3, h4.ext e, by rw [e.box b hb, k2, h5]⟩
  | own sz len =>
    obtain ⟨a, T, h1, h2, h3, h4⟩ := h
    obtain ⟨k1, k2⟩ := hh trivial
    exact ⟨a, T, by rw [e.box b hb, k1, h1], by rw [e.cap b hb]; exact h2, h3, by rw [e.box b hb, k2, h4]⟩
  | map es =>
    obtain ⟨h0, a, c, h1, hst, h2, h3⟩ := h
    obtain ⟨k1, k2⟩ := hh trivial
    exact ⟨by rw [e.box b hb, k2, h0], a, c, by rw [e.box b hb, k1, h1], hst, h2, fun i p hp => ⟨(h3 i p hp).1, (h3 i p hp).2.ext e⟩⟩
  | dfr =>
    obtain ⟨h0, h1⟩ := h
    obtain ⟨k1, k2⟩ := hh trivial
    exact ⟨by rw [e.box b hb, k2, h0], by rw [e.box b hb, k1, h1]⟩
  | loop r =>
    obtain ⟨h0, L, h1, h2, h3, h4, h5, h6, h7, h8, h9⟩ := h
    obtain ⟨k1, k2⟩ := hh trivial
    exact ⟨by rw [e.box b hb, k2, h0], L, by rw [e.box b hb, k1, h1], h2, h3, h4, h5, h6, h7, h8, h9.ext e⟩

/-- The state says what lies in the world; w0: the world in which all began. -/
structure G (w0 : World) (g : Gh) (S : St) (w : World) : Prop where
  n : g.n = S.next
  floor : S.floor ≤ S.next
  obj : ∀ b, b < g.n → ObjR g w b (S.get b)
  lo : ∀ b, b < g.n → (S.get b).live → g.base ≤ g.box b
  ne : ∀ b b', b < g.n → b' < g.n → (S.get b).live → (S.get b').live → g.box b = g.box b' → b = b'
  fresh : ∀ B, w.heap.size ≤ B → g.use B = 0
  base : g.base ≤ w.heap.size
  below : Below g.base w0 w

/-- From one state to another. -/
structure Tr (S : St) (g : Gh) (w : World) (S' : St) (g' : Gh) (w' : World) : Prop where
  ext : Ext g w g' w'
  floor : S'.floor = S.floor
  next : S.next ≤ S'.next
  get : ∀ b, b < S.floor → S'.get b = S.get b
  heap : ∀ b, b < S.floor → (S.get b).live → w'.heap[g.box b]? = w.heap[g.box b]? ∧ g'.use (g.box b) = g.use (g.box b)
  low : ∀ B, B < g.base → g'.use B = g.use B

theorem Tr.refl (S : St) (g : Gh) (w : World) : Tr S g w S g w := ⟨.refl g w, rfl, Nat.le_refl _, fun _ _ => rfl, fun _ _ _ => ⟨rfl, rfl⟩, fun _ _ => rfl⟩

theorem Tr.trans {S S1 S2 : St} {g g1 g2 : Gh} {w w1 w2 : World} (h : Tr S g w S1 g1 w1) (k : Tr S1 g1 w1 S2 g2 w2) (hn : S.floor ≤ g.n) : Tr S g w S2 g2 w2 where
  ext := h.ext.trans k.ext
  floor := k.floor.trans h.floor
  next := Nat.le_trans h.next k.next
  get b hb := (k.get b (by rw [h.floor]; exact hb)).trans (h.get b hb)
  heap b hb hl := by
    obtain ⟨h1, h2⟩ := h.heap b hb hl
    obtain ⟨k1, k2⟩ := k.heap b (by rw [h.floor]; exact hb) (by rw [h.get b hb]; exact hl)
    rw [h.ext.box b (Nat.lt_of_lt_of_le hb hn)] at k1 k2
    exact ⟨k1.trans h1, k2.trans h2⟩
  low B hB := (k.low B (by rw [h.ext.base]; exact hB)).trans (h.low B hB)

theorem live_size {g : Gh} {w : World} {b : Nat} {o : SObj} (h : ObjR g w b o) (hl : o.live) : g.box b < w.heap.size := by
  have key : ∀ {x : Obj}, w.heap[g.box b]? = some x → g.box b < w.heap.size := fun h => (Array.getElem?_eq_some_iff.1 h).1
  cases o with
  | dead => exact hl.elim
  | cells cs => obtain ⟨a, T, h1, _⟩ := h; exact key h1
  | arr sz cs => obtain ⟨a, T, h1, _⟩ := h; exact key h1
  | own sz len => obtain ⟨a, T, h1, _⟩ := h; exact key h1
  | map es => obtain ⟨h0, a, c, h1, _⟩ := h; exact key h1
  | dfr => obtain ⟨h0, h1⟩ := h; exact key h1
  | loop r => obtain ⟨h0, L, h1, _⟩ := h; exact key h1
end Go.Sv
