/- LawNeeds holds: for every tree that may come in as its argument the law answers true, in whatever world; no condition beyond the statement's own. -/
import Derived.Test.YtkflapebfmcmaaaGreatKp
import Derived.Test.YtkflapebfmcmaaaGreatRowNeeds
import Derived.Test.YtkflapebfmcmaaaGreatLawNeeds
import Derived.Test.YtkflapebfmcmaaaGreatDecode
namespace Go.Proofs.YtkflapebfmcmaaaGreat
open Go Go.Sv

theorem treeNeeds : Rows.TreeNeedsSaid :=
  needs_holds kt ks_kt kp_kt rfl rfl fun n scs h => by
    obtain ⟨t, rfl⟩ := dec37 h
    exact needs_law t
end Go.Proofs.YtkflapebfmcmaaaGreat
#print axioms Go.Proofs.YtkflapebfmcmaaaGreat.treeNeeds
