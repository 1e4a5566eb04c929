/- Parts of the proofs of this seat's laws. -/
import Derived.Test.YtkflapebfmcmaaaGreatBOnce22
import Derived.Test.YtkflapebfmcmaaaGreatBOnce23
section
namespace Go.Proofs.YtkflapebfmcmaaaGreat
open Go Go.ChangeShapes Go.WideShapes Go.ChangeAt Go.RowKit Go.Sv
set_option linter.all false
set_option maxRecDepth 100000

/-- An argument that came in and is of a size, as a value of the interpreter's. -/
theorem arg_aggW {H : Type} {enc : TypeId × Value → H} {W : World} {base : Nat} {t : TypeId} {v : Value} {d : DataW H} {p : List MemPlace} (ht : types.contains t = true)
    (hs : ∃ fs, Tryz.prog.underlying t = some (.struct fs)) (hok : Value.okWide Tryz.prog W .any base t v) (h : DataW.Trod enc Tryz.prog W 0 (fun _ => true) true t v d p) (hw : ∀ n ∈ d.weights Tryz.prog t, n ≤ reachBytes) :
    ∃ n scs, R (gh0 W) W v (.agg scs) ∧ ShW Tryz.prog n t scs := by
  obtain ⟨fs, hs⟩ := hs
  unfold Value.okWide at hok
  simp only [hs] at hok
  obtain ⟨cs, rfl, hcs, _⟩ := hok
  obtain ⟨fuel, h⟩ := h
  obtain ⟨scs, ⟨h1, h2⟩, h3⟩ := read_genW readable fuel t _ _ ht h hw
  refine ⟨fuel, scs, .agg scs cs (by simpa [Value.cells] using h1.symm) (fun i c hi => ?_) (fun i c hi => ?_), h3⟩
  · rw [getD_toList]; exact (h2 i c hi).2
  · rw [getD_toList]; exact (h2 i c hi).1

end Go.Proofs.YtkflapebfmcmaaaGreat
end
