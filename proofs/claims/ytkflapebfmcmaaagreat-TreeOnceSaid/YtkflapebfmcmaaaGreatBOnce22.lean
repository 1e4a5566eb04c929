/- Parts of the proofs of this seat's laws. -/
import Derived.Test.YtkflapebfmcmaaaGreatRows
import Derived.ProofKit
import Derived.SizedLaws
import Derived.Lib.RowBridge
import Derived.Carry
import Derived.Test.YtkflapebfmcmaaaGreatBOnce12
import Derived.Test.YtkflapebfmcmaaaGreatBOnce13
section
namespace Go.Proofs.YtkflapebfmcmaaaGreat
open Go Go.ChangeShapes Go.WideShapes Go.ChangeAt Go.RowKit Go.Sv
set_option linter.all false
set_option maxRecDepth 100000

theorem own : ownKnob Tryz.prog.godebug = none := by kernel_rfl
theorem laidOut : laidOutB Tryz.prog = true := by kernel_rfl
def types : List TypeId := [3, 22, 23, 24, 25, 26, 27, 28, 29, 31, 34, 35, 37, 39, 40, 53, 55, 57, 59, 108]
theorem readable : readT Tryz.prog types = true := by kernel_rfl

theorem getD_toList (cs : Array Value) (i : Nat) : cs.getD i undef = (Value.agg cs).cells.toList.getD i undef := by
  simp only [Value.cells, Array.getD, List.getD, Array.getElem?_toList]
  split <;> rename_i h <;> simp_all [Array.getElem?_eq_getElem, Array.getElem?_eq_none]

end Go.Proofs.YtkflapebfmcmaaaGreat
end
