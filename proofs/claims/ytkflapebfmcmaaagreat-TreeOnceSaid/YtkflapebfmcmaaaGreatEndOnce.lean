/- Parts of the proofs of this seat's laws. -/
import Derived.Test.YtkflapebfmcmaaaGreatBOnce21
import Derived.Test.YtkflapebfmcmaaaGreatBOnce25
import Derived.Test.YtkflapebfmcmaaaGreatBOnce52
section
set_option linter.all false
namespace Go.Proofs.YtkflapebfmcmaaaGreat
open Go Go.Sv

theorem treeOnce : Rows.TreeOnceSaid :=
  once_holds kt ks_kt kp_kt rfl rfl fun n scs h => by
    obtain ⟨b, rfl, hb⟩ := decW31 h
    exact once_run hb
end Go.Proofs.YtkflapebfmcmaaaGreat
#print axioms Go.Proofs.YtkflapebfmcmaaaGreat.treeOnce
end
