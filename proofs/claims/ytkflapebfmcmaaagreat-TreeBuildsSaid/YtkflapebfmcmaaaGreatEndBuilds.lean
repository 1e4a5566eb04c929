/- Parts of the proofs of this seat's laws: an interpreter of the program's form, its soundness against the model, or what it answers on this program. -/
import Derived.Test.YtkflapebfmcmaaaGreatBBuilds22
import Derived.Test.YtkflapebfmcmaaaGreatBBuilds25
import Derived.Test.YtkflapebfmcmaaaGreatBBuilds53
namespace Go.Proofs.YtkflapebfmcmaaaGreat
open Go Go.Sv

theorem treeBuilds : Rows.TreeBuildsSaid :=
  builds_holds kt ks_kt kp_kt rfl rfl fun n scs h => by
    obtain ⟨b, rfl, hb⟩ := decW31 h
    exact builds_law hb
end Go.Proofs.YtkflapebfmcmaaaGreat
#print axioms Go.Proofs.YtkflapebfmcmaaaGreat.treeBuilds
