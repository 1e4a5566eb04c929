/- A part of the proofs of this seat's laws: an interpreter of the program's form, its soundness against the model, or what it answers on this program. -/
/- What is kept of a value when the state is left behind; new slices that never change. -/
import Derived.Test.YtkflapebfmcmaaaGreatSvE
namespace Go.Sv
open Go Go.RowKit

theorem eraseL_map (S : St) : ∀ l, eraseL S l = l.map (erase S)
  | [] => rfl
  | x :: r => by simp [eraseL, eraseL_map S r]
theorem shutL_map : ∀ l, shutL l = l.map shut
  | [] => rfl
  | x :: r => by simp [shutL, shutL_map r]

theorem R_weakV {g : Gh} {w : World} (u : Value) : R g w u (weakV u) := by
  unfold weakV
  split
  · exact .nil
  · exact .v _
theorem weakL_map : ∀ l, weakL l = l.map weak
  | [] => rfl
  | x :: r => by simp [weakL, weakL_map r]

theorem R_weak {g : Gh} {w : World} {u : Value} {x : SV} (h : R g w u x) : R g w u (weak x) := by
  have key : ∀ {cs : List SV} {f : Nat → Value}, (∀ i c, cs[i]? = some c → R g w (f i) (weak c)) → ∀ i c, (weakL cs)[i]? = some c → R g w (f i) c := by
    intro cs f ih i c hi
    rw [weakL_map, List.getElem?_map, Option.map_eq_some_iff] at hi
    obtain ⟨c', h1, rfl⟩ := hi
    exact ih i c' h1
  have len : ∀ cs, (weakL cs).length = cs.length := fun cs => by simp [weakL_map]
  induction h with
  | v u => exact R_weakV u
  | nil => exact .nil
  | emp B o => exact .sl B o 0 0 [] (fun _ => undef) (fun i hi => absurd hi (Nat.not_lt_zero i)) (fun i c hi => by simp at hi) (Nat.le_refl _)
  | nil0 => exact .nil
  | slz a c => exact .slz a c
  | top u => exact .top u
  | ptr b off hb => exact .ptr b off hb
  | cp B o cs f hc hr _ => exact .cp B o cs f hc hr
  | sl B o n c cs f hc _ hn ih => exact .sl B o n c _ f (by rw [len]; exact hc) (key ih) hn
  | own b n cs f hb hc _ hn ih => exact .sl (g.box b) 0 n _ _ f (by rw [len]; exact hc) (key ih) hn
  | arr b n hb hn => exact .arr b n hb hn
  | map b hb => exact .map b hb
  | func f fst cap fst' cap' h1 h2 h3 h4 _ _ => exact .func f fst cap fst' cap' h1 h2 h3 h4
  | yield l hl => exact .yield l hl
  | agg cs cs' h1 h2 _ ih =>
    refine .agg _ cs' (by rw [len]; exact h1) (fun i c hi => ?_) (key (f := fun i => cs'.getD i undef) ih)
    rw [weakL_map, List.getElem?_map, Option.map_eq_some_iff] at hi
    obtain ⟨c', h1, rfl⟩ := hi
    exact h2 i c' h1
  | tuple cs cs' h1 _ ih => exact .tuple _ cs' (by rw [len]; exact h1) (key (f := fun i => cs'.getD i undef) ih)

theorem Rs_weak {g : Gh} {w : World} {us : List Value} {xs : List SV} (h : Rs g w us xs) : Rs g w us (xs.map weak) := by
  refine ⟨by simp [h.1], fun i c hi => ?_⟩
  rw [List.getElem?_map, Option.map_eq_some_iff] at hi
  obtain ⟨c', h1, rfl⟩ := hi
  exact R_weak (h.2 i c' h1)

section
variable {w0 : World} {k : K} {g : Gh} {S : St} {w : World}

def blockSize (w : World) (B : Nat) : Nat := match w.heap[B]? with | some (.cells a _ _) => a.size | _ => 0

/-- A row that was written by the call that is over. -/
def Raised (g g1 : Gh) (S1 : St) (B : Nat) : Prop := ∃ b, g.n ≤ b ∧ b < g1.n ∧ g1.box b = B ∧ ∃ sz cs, S1.get b = .arr sz cs

open Classical in
/-- Behind a call that leaves no trace: its boxes are forgotten, its rows stay for good. -/
noncomputable def Gh.back (g g1 : Gh) (S1 : St) (w1 : World) : Gh :=
  { base := g.base, n := g.n, box := g.box, cap := g.cap, use := fun B => if Raised g g1 S1 B then max (g1.use B) (blockSize w1 B) else g1.use B }

theorem back_pos {g1 : Gh} {S1 : St} {w1 : World} {B : Nat} (h : Raised g g1 S1 B) : (g.back g1 S1 w1).use B = max (g1.use B) (blockSize w1 B) := by simp [Gh.back, h]
theorem back_neg {g1 : Gh} {S1 : St} {w1 : World} {B : Nat} (h : ¬ Raised g g1 S1 B) : (g.back g1 S1 w1).use B = g1.use B := by simp [Gh.back, h]
theorem back_le (g1 : Gh) (S1 : St) (w1 : World) (B : Nat) : g1.use B ≤ (g.back g1 S1 w1).use B := by
  by_cases h : Raised g g1 S1 B
  · rw [back_pos h]; exact Nat.le_max_left _ _
  · rw [back_neg h]; exact Nat.le_refl _

theorem R_back {g1 g2 : Gh} {S1 : St} {w1 : World} (G1 : G w0 g1 S1 w1) (use_le : ∀ B, g1.use B ≤ g2.use B) (up : ∀ b sz cs, b < g1.n → S1.floor ≤ b → S1.get b = .arr sz cs → blockSize w1 (g1.box b) ≤ g2.use (g1.box b)) {u : Value} {y : SV} (h : R g1 w1 u y) : R g2 w1 u (erase S1 y) := by
  have cont : ∀ {B o len : Nat} {f : Nat → Value}, Cont g1 w1 B o len f → Cont g2 w1 B o len f := by
    intro B o len f h i hi
    obtain ⟨h1, h2⟩ := h i hi
    exact ⟨Nat.lt_of_lt_of_le h1 (use_le B), h2⟩
  have key : ∀ {cs : List SV} {f : Nat → Value}, (∀ i c, cs[i]? = some c → R g2 w1 (f i) (erase S1 c)) → ∀ i c, (eraseL S1 cs)[i]? = some c → R g2 w1 (f i) c := by
    intro cs f ih i c hi
    rw [eraseL_map, List.getElem?_map, Option.map_eq_some_iff] at hi
    obtain ⟨c', h1, rfl⟩ := hi
    exact ih i c' h1
  have len : ∀ cs, (eraseL S1 cs).length = cs.length := fun cs => by simp [eraseL_map]
  induction h with
  | v u => exact R_weakV u
  | nil => exact .nil
  | emp B o => exact .sl B o 0 0 [] (fun _ => undef) (fun i hi => absurd hi (Nat.not_lt_zero i)) (fun i c hi => by simp at hi) (Nat.le_refl _)
  | nil0 => exact .nil
  | slz a c => exact .slz a c
  | top u => exact .top u
  | ptr b off hb => exact .top _
  | cp B o cs f hc hr _ => exact .top _
  | sl B o n c cs f hc _ hn ih => exact .sl B o n c _ f (by rw [len]; exact cont hc) (key ih) hn
  | own b n cs f hb hc _ hn ih => exact .sl (g1.box b) 0 n _ _ f (by rw [len]; exact cont hc) (key ih) hn
  | arr b n hlt hcap =>
    simp only [erase]
    split
    · rename_i hf
      split
      · rename_i sz cs hget
        have hO := G1.obj b hlt
        rw [hget] at hO
        obtain ⟨a, T, hh, hsz, hle, hcs, hu⟩ := hO
        refine .sl (g1.box b) 0 n _ _ (fun i => a.getD i undef) ?_ ?_ hcap
        · intro i hi
          simp only [List.length_map] at hi
          have hia : i < a.size := by omega
          refine ⟨?_, ?_, ?_⟩
          · have h1 := up b sz cs hlt hf hget
            have : blockSize w1 (g1.box b) = a.size := by simp [blockSize, hh]
            omega
          · have := row_load hh (off := 0) i (by omega)
            rw [add_none] at this
            simpa using this
          · exact (hcs i cs[i] (by simp)).2
        · intro i c hi
          rw [List.getElem?_map, Option.map_eq_some_iff] at hi
          obtain ⟨c', h1, rfl⟩ := hi
          have := (hcs i c' h1).1
          cases c' with
          | v u' =>
            have e := R_v this
            simp only [plainC]
            rw [e]
            exact R_weakV _
          | _ => exact .top _
      · exact .top _
    · exact .top _
  | map b hb => exact .top _
  | func f fst cap fst' cap' h1 h2 h3 h4 _ _ => exact .top _
  | yield l hl => exact .top _
  | agg cs cs' h1 h2 _ ih =>
    refine .agg _ cs' (by rw [len]; exact h1) (fun i c hi => ?_) (key (f := fun i => cs'.getD i undef) ih)
    rw [eraseL_map, List.getElem?_map, Option.map_eq_some_iff] at hi
    obtain ⟨c', h1, rfl⟩ := hi
    exact h2 i c' h1
  | tuple cs cs' h1 _ ih => exact .tuple _ cs' (by rw [len]; exact h1) (key (f := fun i => cs'.getD i undef) ih)

theorem restore {g1 : Gh} {S1 : St} {w1 : World} (hG : G w0 g S w) (G1 : G w0 g1 S1 w1) (T : Tr { S with floor := S.next } g w S1 g1 w1) {v : Value} {y : SV} (hR : R g1 w1 v y) : Good w0 S g w (erase S1 y) S v w1 := by
  have hn := hG.n
  have hfl := hG.floor
  have use_le := back_le (g := g) g1 S1 w1
  have hext : Ext g w (g.back g1 S1 w1) w1 := ⟨rfl, Nat.le_refl _, fun _ _ => rfl, fun _ _ => rfl, fun B => Nat.le_trans (T.ext.use B) (use_le B), T.ext.cell⟩
  have hold : ∀ b, b < g.n → (S.get b).live → w1.heap[g.box b]? = w.heap[g.box b]? ∧ (g.back g1 S1 w1).use (g.box b) = g.use (g.box b) := by
    intro b hb hl
    obtain ⟨h1, h2⟩ := T.heap b (by show b < S.next; omega) hl
    refine ⟨h1, ?_⟩
    rw [← h2]
    apply back_neg
    rintro ⟨b', k1, k2, k3, sz, cs, k4⟩
    have e1 : S1.get b = S.get b := T.get b (by show b < S.next; omega)
    have := G1.ne b' b k2 (Nat.lt_of_lt_of_le hb T.ext.n) (by rw [k4]; trivial) (by rw [e1]; exact hl) (by rw [k3, T.ext.box b hb])
    omega
  refine ⟨g.back g1 S1 w1, R_back G1 use_le (fun b sz cs h1 h2 h3 => by rw [back_pos ⟨b, by rw [T.floor] at h2; have : S.next ≤ b := h2; omega, h1, rfl, sz, cs, h3⟩]; exact Nat.le_max_right _ _) hR, ?_, ?_⟩
  · refine ⟨hn, hfl, fun b hb => (hG.obj b hb).ext hext hb (hold b hb), hG.lo, hG.ne, ?_, ?_, ?_⟩
    · intro B hB
      have hz := G1.fresh B hB
      by_cases hr : Raised g g1 S1 B
      · rw [back_pos hr]
        have : blockSize w1 B = 0 := by
          have : w1.heap[B]? = none := Array.getElem?_eq_none hB
          simp [blockSize, this]
        omega
      · rw [back_neg hr]; exact hz
    · show g.base ≤ _
      rw [← T.ext.base]; exact G1.base
    · show Below g.base w0 w1
      rw [← T.ext.base]; exact G1.below
  · refine ⟨hext, rfl, Nat.le_refl _, fun _ _ => rfl, fun b hb hl => hold b (by omega) hl, fun B hB => ?_⟩
    rw [back_neg, T.low B hB]
    rintro ⟨b', k1, k2, k3, sz, cs, k4⟩
    have h1 := G1.lo b' k2 (by rw [k4]; trivial)
    have h2 := T.ext.base
    omega


/-- The ghost of a call that is told nothing of the state. -/
def Gh.cut (g : Gh) (w : World) : Gh := { base := w.heap.size, n := 0, box := fun _ => 0, cap := fun _ => 0, use := g.use }

theorem G.cut (hG : G w0 g S w) : G w (g.cut w) St0 w := by
  refine ⟨rfl, Nat.le_refl _, fun b hb => ?_, fun b hb => ?_, fun b b' hb => ?_, hG.fresh, Nat.le_refl _, .refl _ _⟩
  all_goals exact absurd hb (Nat.not_lt_zero _)

theorem R_shut {u : Value} {x : SV} (h : R g w u x) : R (g.cut w) w u (shut x) := by
  have key : ∀ {cs : List SV} {f : Nat → Value}, (∀ i c, cs[i]? = some c → R (g.cut w) w (f i) (shut c)) → ∀ i c, (shutL cs)[i]? = some c → R (g.cut w) w (f i) c := by
    intro cs f ih i c hi
    rw [shutL_map, List.getElem?_map, Option.map_eq_some_iff] at hi
    obtain ⟨c', h1, rfl⟩ := hi
    exact ih i c' h1
  have len : ∀ cs, (shutL cs).length = cs.length := fun cs => by simp [shutL_map]
  have cont : ∀ {B o len : Nat} {f : Nat → Value}, Cont g w B o len f → Cont (g.cut w) w B o len f := fun h => h
  induction h with
  | v u => exact .v u
  | nil => exact .nil
  | emp B o => exact .emp B o
  | nil0 => exact .nil0
  | slz a c => exact .slz a c
  | top u => exact .top u
  | ptr b off hb => exact .top _
  | cp B o cs f hc hr ih => exact .cp B o _ f (by rw [len]; exact cont hc) (key ih)
  | sl B o n c cs f hc _ hn ih => exact .sl B o n c _ f (by rw [len]; exact cont hc) (key ih) hn
  | own b n cs f hb hc _ hn ih => exact .sl (g.box b) 0 n _ _ f (by rw [len]; exact cont hc) (key ih) hn
  | arr b n hb hn => exact .top _
  | map b hb => exact .top _
  | func f fst cap fst' cap' h1 h2 h3 h4 ih1 ih2 => exact .func f _ _ fst' cap' (by rw [len]; exact h1) (key (f := fun i => fst'.getD i undef) ih1) (by rw [len]; exact h3) (key (f := fun i => cap'.getD i undef) ih2)
  | yield l hl => exact .top _
  | agg cs cs' h1 h2 _ ih =>
    refine .agg _ cs' (by rw [len]; exact h1) (fun i c hi => ?_) (key (f := fun i => cs'.getD i undef) ih)
    rw [shutL_map, List.getElem?_map, Option.map_eq_some_iff] at hi
    obtain ⟨c', h1, rfl⟩ := hi
    exact h2 i c' h1
  | tuple cs cs' h1 _ ih => exact .tuple _ cs' (by rw [len]; exact h1) (key (f := fun i => cs'.getD i undef) ih)

theorem apart {g1 : Gh} {S1 : St} {w1 : World} (hG : G w0 g S w) (G1 : G w g1 S1 w1) (T : Tr St0 (g.cut w) w S1 g1 w1) {v : Value} {y : SV} (hR : R g1 w1 v y) : Good w0 S g w (erase S1 y) S v w1 := by
  have hn := hG.n
  have hfl := hG.floor
  have hbel : Below w.heap.size w w1 := by
    have := G1.below
    rw [T.ext.base] at this
    exact this
  let g2 : Gh := { base := g.base, n := g.n, box := g.box, cap := g.cap, use := ((g.cut w).back g1 S1 w1).use }
  have use_le : ∀ B, g1.use B ≤ g2.use B := back_le (g := g.cut w) g1 S1 w1
  have hlow : ∀ B, B < w.heap.size → g2.use B = g.use B := by
    intro B hB
    show ((g.cut w).back g1 S1 w1).use B = _
    rw [back_neg]
    · exact T.low B hB
    · rintro ⟨b', k1, k2, k3, sz, cs, k4⟩
      have h1 := G1.lo b' k2 (by rw [k4]; trivial)
      have h2 : g1.base = w.heap.size := T.ext.base
      omega
  have hext : Ext g w g2 w1 := ⟨rfl, Nat.le_refl _, fun _ _ => rfl, fun _ _ => rfl, fun B => Nat.le_trans (T.ext.use B) (use_le B), T.ext.cell⟩
  have hold : ∀ b, b < g.n → (S.get b).live → w1.heap[g.box b]? = w.heap[g.box b]? ∧ g2.use (g.box b) = g.use (g.box b) := by
    intro b hb hl
    have := live_size (hG.obj b hb) hl
    exact ⟨hbel.block _ this, hlow _ this⟩
  refine ⟨g2, R_back G1 use_le (fun b sz cs h1 h2 h3 => ?_) hR, ?_, ?_⟩
  · show _ ≤ ((g.cut w).back g1 S1 w1).use _
    rw [back_pos ⟨b, Nat.zero_le _, h1, rfl, sz, cs, h3⟩]; exact Nat.le_max_right _ _
  · refine ⟨hn, hfl, fun b hb => (hG.obj b hb).ext hext hb (hold b hb), hG.lo, hG.ne, ?_, Nat.le_trans hG.base hbel.size, hG.below.trans (hbel.mono hG.base)⟩
    intro B hB
    show ((g.cut w).back g1 S1 w1).use B = _
    have hz := G1.fresh B hB
    by_cases hr : Raised (g.cut w) g1 S1 B
    · rw [back_pos hr]
      have : blockSize w1 B = 0 := by
        have : w1.heap[B]? = none := Array.getElem?_eq_none hB
        simp [blockSize, this]
      omega
    · rw [back_neg hr]; exact hz
  · exact ⟨hext, rfl, Nat.le_refl _, fun _ _ => rfl, fun b hb hl => hold b (by omega) hl, fun B hB => hlow B (Nat.lt_of_lt_of_le hB hG.base)⟩

theorem evOpF_sound (hk : KS k) (hG : G w0 g S w) {tm : Array Value} {ρ : Nat → SV} (hT : RT g w tm ρ) {o : Oper} {c : COp} (hop : c.op = o.op) {x : SV} {S' : St} (h : evOpF k c ρ S = some (x, S')) : OpOK k.P (execOp (evalT tm) o) w (Good w0 S g w x S') := by
  unfold evOpF at h
  split at h
  · simp only [Option.map_eq_some_iff, Prod.mk.injEq] at h
    obtain ⟨⟨y, S1⟩, h, rfl, rfl⟩ := h
    have hT' : RT (g.cut w) w tm (fun t => shut (ρ t)) := fun t => R_shut (hT t)
    obtain ⟨w1, ⟨u, hrun, g1, hR, hG1, hT1⟩ | ⟨hrun, g1, hR, hG1, hT1⟩⟩ := evOp_sound hk hG.cut hT' (o := o) hop h
    · exact ok_value hrun (apart hG hG1 hT1 hR)
    · exact ok_skip hrun (apart hG hG1 hT1 hR)
  · exact evOp_sound hk hG hT hop h
end
end Go.Sv
