/- Parts of the proofs of this seat's laws. -/
import Derived.Test.YtkflapebfmcmaaaGreatBOnce12
section
set_option linter.all false
namespace Go.Sv
open Go Go.Proofs
set_option maxRecDepth 1000000
def outc (r : Option (SV × St)) : Bool := match r with | some (.v (.bool b), _) => b | _ => false
theorem sane_out : outc (lvl k2 400 (.func 12 [] []) [] St0) = true := by kernel_rfl
theorem outc_some {r : Option (SV × St)} (h : outc r = true) : ∃ S, r = some (.v (.bool true), S) := by
  unfold outc at h
  split at h
  · subst h; exact ⟨_, rfl⟩
  · cases h
end Go.Sv
end
