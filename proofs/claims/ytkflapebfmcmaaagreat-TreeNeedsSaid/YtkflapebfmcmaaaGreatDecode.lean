/- A part of the proofs of this seat's laws: an interpreter of the program's form, its soundness against the model, or what it answers on this program. -/
import Derived.Test.YtkflapebfmcmaaaGreatModel
import Derived.Test.YtkflapebfmcmaaaGreatSvZ
namespace Go.Sv
open Go Go.Proofs
set_option linter.all false
set_option maxRecDepth 1000000

/-! What may come in as a tree IS a tree. -/
theorem dec_int {n : Nat} {t : TypeId} {q : IntKind} {cs : List SV} (hu : Tryz.prog.underlying t = some (.int q)) (h : ShF Tryz.prog n t cs) : ∃ x, (Lit.int q x).wf = true ∧ cs = [.v (.int q x)] := by
  cases n with
  | zero => exact h.elim
  | succ n => simpa only [ShF, hu] using h

theorem dec26 {n : Nat} {cs : List SV} (h : ShF Tryz.prog n 26 cs) : ∃ a b c d : Int, cs = [.v (.int .u32 a), .v (.int .u32 b), .v (.int .u32 c), .v (.int .u32 d)] := by
  cases n with
  | zero => exact h.elim
  | succ n =>
    simp only [ShF, Tryz.underlying26, List.replicate, parts] at h
    obtain ⟨_, _, rfl, h1, _, _, rfl, h2, _, _, rfl, h3, _, _, rfl, h4, rfl⟩ := h
    obtain ⟨a, _, rfl⟩ := dec_int Tryz.underlying24 h1
    obtain ⟨b, _, rfl⟩ := dec_int Tryz.underlying24 h2
    obtain ⟨c, _, rfl⟩ := dec_int Tryz.underlying24 h3
    obtain ⟨d, _, rfl⟩ := dec_int Tryz.underlying24 h4
    exact ⟨a, b, c, d, rfl⟩

theorem dec28 {n : Nat} {cs : List SV} (h : ShF Tryz.prog n 28 cs) : ∃ a : Atom, cs = a.t28.enc := by
  cases n with
  | zero => exact h.elim
  | succ n =>
    simp only [ShF, Tryz.underlying28, List.map, parts] at h
    obtain ⟨_, _, rfl, h1, _, _, rfl, h2, _, _, rfl, h3, rfl⟩ := h
    obtain ⟨a, _, rfl⟩ := dec_int Tryz.underlying3 h1
    obtain ⟨b, _, rfl⟩ := dec_int Tryz.underlying3 h2
    obtain ⟨c0, c1, c2, c3, rfl⟩ := dec26 h3
    exact ⟨⟨a, b, c0, c1, c2, c3⟩, rfl⟩

theorem dec_list {p : List SV → Prop} : ∀ {l : List (List SV)}, (∀ x ∈ l, ∃ t : Tree, x = t.cells) → ∃ ts : List Tree, l = ts.map Tree.cells
  | [], _ => ⟨[], rfl⟩
  | x :: r, h => by
    obtain ⟨t, rfl⟩ := h x (by simp)
    obtain ⟨ts, rfl⟩ := dec_list (p := p) (l := r) fun y hy => h y (by simp [hy])
    exact ⟨t :: ts, rfl⟩

theorem dec37 : ∀ {n : Nat} {cs : List SV}, ShF Tryz.prog n 37 cs → ∃ t : Tree, cs = t.cells
  | 0, _, h => h.elim
  | 1, cs, h => by
    simp only [ShF, Tryz.underlying37, List.map, parts] at h
    obtain ⟨_, _, _, h1, _⟩ := h
    exact h1.elim
  | n + 2, cs, h => by
    have ih := @dec37 n
    rw [ShF] at h
    simp only [Tryz.underlying37, List.map, parts] at h
    obtain ⟨_, _, rfl, h1, _, _, rfl, h2, _, _, rfl, h3, _, _, rfl, h4, _, _, rfl, h5, _, _, rfl, h6, rfl⟩ := h
    obtain ⟨a, rfl⟩ := dec28 h1
    obtain ⟨kind, _, rfl⟩ := dec_int Tryz.underlying3 h2
    obtain ⟨ty, _, rfl⟩ := dec_int Tryz.underlying3 h3
    obtain ⟨op, _, rfl⟩ := dec_int Tryz.underlying3 h4
    obtain ⟨off, _, rfl⟩ := dec_int Tryz.underlying3 h5
    simp only [ShF, Tryz.underlying35] at h6
    obtain ⟨l, rfl, _, hl⟩ := h6
    obtain ⟨ts, rfl⟩ := dec_list (p := fun _ => True) (l := l) fun x hx => ih (hl x hx)
    refine ⟨.mk a kind ty op off ts, ?_⟩
    simp [Tree.cells, Tree.t37, T37.enc, Atom.t28, T28.enc, cellsT_eq, List.flatMap]
end Go.Sv
