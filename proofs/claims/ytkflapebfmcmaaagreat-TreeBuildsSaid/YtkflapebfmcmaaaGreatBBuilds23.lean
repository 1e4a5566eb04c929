/- Parts of the proofs of this seat's laws: an interpreter of the program's form, its soundness against the model, or what it answers on this program. -/
import Derived.Test.YtkflapebfmcmaaaGreatRows
import Derived.ProofKit
import Derived.SizedLaws
import Derived.Lib.RowBridge
import Derived.Carry
import Derived.Test.YtkflapebfmcmaaaGreatBBuilds12
import Derived.Test.YtkflapebfmcmaaaGreatBBuilds13
namespace Go.Proofs.YtkflapebfmcmaaaGreat
open Go Go.ChangeShapes Go.WideShapes Go.ChangeAt Go.RowKit Go.Sv
set_option linter.all false
set_option maxRecDepth 100000

theorem own : ownKnob Tryz.prog.godebug = none := by kernel_rfl
theorem laidOut : laidOutB Tryz.prog = true := by kernel_rfl
def types : List TypeId := [3, 22, 23, 24, 25, 26, 27, 28, 29, 31, 34, 35, 37, 39, 40, 53, 55, 57, 59, 108]
theorem readable : readT Tryz.prog types = true := by kernel_rfl

theorem getD_toList (cs : Array Value) (i : Nat) : cs.getD i undef = (Value.agg cs).cells.toList.getD i undef := by
  simp only [Value.cells, Array.getD, List.getD, Array.getElem?_toList]
  split <;> rename_i h <;> simp_all [Array.getElem?_eq_getElem, Array.getElem?_eq_none]

/-- An argument that came in, as a value of the interpreter's. -/
theorem arg_agg {H : Type} {enc : TypeId × Value → H} {W : World} {base : Nat} {t : TypeId} {v : Value} {d : DataW H} {p : List MemPlace} (ht : types.contains t = true) (ha : ∀ fs, Tryz.prog.underlying t = some (.struct fs) → True)
    (hs : ∃ fs, Tryz.prog.underlying t = some (.struct fs)) (hok : Value.okWide Tryz.prog W .any base t v) (h : DataW.Trod enc Tryz.prog W 0 (fun _ => true) true t v d p) :
    ∃ n scs, R (gh0 W) W v (.agg scs) ∧ ShF Tryz.prog n t scs := by
  obtain ⟨fs, hs⟩ := hs
  unfold Value.okWide at hok
  simp only [hs] at hok
  obtain ⟨cs, rfl, hcs, _⟩ := hok
  obtain ⟨fuel, h⟩ := h
  obtain ⟨scs, ⟨h1, h2⟩, h3⟩ := read_gen readable fuel t _ _ ht h
  refine ⟨fuel, scs, .agg scs cs (by simpa [Value.cells] using h1.symm) (fun i c hi => ?_) (fun i c hi => ?_), h3⟩
  · rw [getD_toList]; exact (h2 i c hi).2
  · rw [getD_toList]; exact (h2 i c hi).1

end Go.Proofs.YtkflapebfmcmaaaGreat
