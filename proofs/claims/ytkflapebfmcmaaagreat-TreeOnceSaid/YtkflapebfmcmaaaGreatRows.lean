/-
  NARROWER THAN 'FOR EVERY INPUT', by the rows' own cells (each row's printed sentence says how): TreeFlats: loops · TreeAgain: loops · TreeNeeds: loops.
  DERIVED. THE GIVEN ROWS OF THIS SEAT. 9 by the template 'for every input the law returns true; each argument reads behind the call as it read before'; 0 by the template 'total and deterministic' (their statements: YtkflapebfmcmaaaGreatTotals.lean).
  GIVEN WITH THE SEED: the statements are not yours to turn. If you find one false, say at which input.
  Laid BY PROGRAM, IN A SANDBOX (cutbox-rows.mjs): the forced cells as the released guide's own fill.sh prints them over the translation 0b3132bcc40d14be… (all of the seat's roots in one cut). By AI agents, Wed Nov 11 2026. No macro, syntax, notation, axiom, sorry.
-/
import Derived.Test.YtkflapebfmcmaaaGreatChecked
import GoSem.Claim
import GoSem.ClaimJoined
import GoSem.ClaimMapViews
import Derived.JoinedTies
import Derived.KernelRfl
namespace Go.Proofs.YtkflapebfmcmaaaGreat
/- THE CELL 'sum', in the pinned program and in every row, IS THE sha256 OF THE DUMP (.gsa) THAT YtkflapebfmcmaaaGreatProg.lean LOADS. Nothing in Lean hashes anything: it is a label: what it is worth is what the hold of that sum in a sandbox is worth. -/
noncomputable def Tryz.pinned : Pinned := { name := "ytkflapebfmcmaaagreat", sum := "0b3132bcc40d14be68ad01fd4bfec254021af020dbb214b3ba916a23c8153c95", checked := Tryz.checked }
namespace Rows
def none {H : Type} : Left H := { results := [], args := [] }

/-- 'candlinglaw16.TreeBuilds': WHATEVER THE INPUT: true; the input reads as it did. -/
def treeBuildsSpec : ChangeSpec := { name := "treeBuilds", fn := fun _ => fun
  | [d] => { results := [.lit (.bool true)], args := [d] }
  | _ => none }
def treeBuildsRow : OpenClaim := { program := "ytkflapebfmcmaaagreat", sum := "0b3132bcc40d14be68ad01fd4bfec254021af020dbb214b3ba916a23c8153c95", func := "candling/candlinglaw16.TreeBuilds", spec := "treeBuilds", unfollowed := true, recurses := true, apart := false }
def TreeBuildsSaid : Prop := treeBuildsRow.holds Tryz.pinned (OpenSpec.ofChange treeBuildsSpec)

/-- ITS FALSE NEIGHBOUR: 'it returns false'. Refute it at one input. -/
def treeBuildsWrong : ChangeSpec := { name := "treeBuilds", fn := fun _ => fun
  | [d] => { results := [.lit (.bool false)], args := [d] }
  | _ => none }
def TreeBuildsWrongFalsely : Prop := treeBuildsRow.holds Tryz.pinned (OpenSpec.ofChange treeBuildsWrong)

/-- 'candlinglaw16.TreeFlats': WHATEVER THE INPUT: true; the input reads as it did. -/
def treeFlatsSpec : ChangeSpec := { name := "treeFlats", fn := fun _ => fun
  | [d1, d2] => { results := [.lit (.bool true)], args := [d1, d2] }
  | _ => none }
def treeFlatsRow : OpenClaim := { program := "ytkflapebfmcmaaagreat", sum := "0b3132bcc40d14be68ad01fd4bfec254021af020dbb214b3ba916a23c8153c95", func := "candling/candlinglaw16.TreeFlats", spec := "treeFlats", unfollowed := true, recurses := true, loops := true, apart := false }
def TreeFlatsSaid : Prop := treeFlatsRow.holds Tryz.pinned (OpenSpec.ofChange treeFlatsSpec)

/-- ITS FALSE NEIGHBOUR: 'it returns false'. Refute it at one input. -/
def treeFlatsWrong : ChangeSpec := { name := "treeFlats", fn := fun _ => fun
  | [d1, d2] => { results := [.lit (.bool false)], args := [d1, d2] }
  | _ => none }
def TreeFlatsWrongFalsely : Prop := treeFlatsRow.holds Tryz.pinned (OpenSpec.ofChange treeFlatsWrong)

/-- 'candlinglaw16.TreePlains': WHATEVER THE INPUT: true; the input reads as it did. -/
def treePlainsSpec : ChangeSpec := { name := "treePlains", fn := fun _ => fun
  | [d] => { results := [.lit (.bool true)], args := [d] }
  | _ => none }
def treePlainsRow : OpenClaim := { program := "ytkflapebfmcmaaagreat", sum := "0b3132bcc40d14be68ad01fd4bfec254021af020dbb214b3ba916a23c8153c95", func := "candling/candlinglaw16.TreePlains", spec := "treePlains", unfollowed := true, recurses := true, apart := false }
def TreePlainsSaid : Prop := treePlainsRow.holds Tryz.pinned (OpenSpec.ofChange treePlainsSpec)

/-- ITS FALSE NEIGHBOUR: 'it returns false'. Refute it at one input. -/
def treePlainsWrong : ChangeSpec := { name := "treePlains", fn := fun _ => fun
  | [d] => { results := [.lit (.bool false)], args := [d] }
  | _ => none }
def TreePlainsWrongFalsely : Prop := treePlainsRow.holds Tryz.pinned (OpenSpec.ofChange treePlainsWrong)

/-- 'candlinglaw16.TreeOnce': WHATEVER THE INPUT: true; the input reads as it did. -/
def treeOnceSpec : ChangeSpec := { name := "treeOnce", fn := fun _ => fun
  | [d] => { results := [.lit (.bool true)], args := [d] }
  | _ => none }
def treeOnceRow : OpenClaim := { program := "ytkflapebfmcmaaagreat", sum := "0b3132bcc40d14be68ad01fd4bfec254021af020dbb214b3ba916a23c8153c95", func := "candling/candlinglaw16.TreeOnce", spec := "treeOnce", unfollowed := true, recurses := true, apart := false }
def TreeOnceSaid : Prop := treeOnceRow.holds Tryz.pinned (OpenSpec.ofChange treeOnceSpec)

/-- ITS FALSE NEIGHBOUR: 'it returns false'. Refute it at one input. -/
def treeOnceWrong : ChangeSpec := { name := "treeOnce", fn := fun _ => fun
  | [d] => { results := [.lit (.bool false)], args := [d] }
  | _ => none }
def TreeOnceWrongFalsely : Prop := treeOnceRow.holds Tryz.pinned (OpenSpec.ofChange treeOnceWrong)

/-- 'candlinglaw16.TreeAgain': WHATEVER THE INPUT: true; the input reads as it did. -/
def treeAgainSpec : ChangeSpec := { name := "treeAgain", fn := fun _ => fun
  | [d] => { results := [.lit (.bool true)], args := [d] }
  | _ => none }
def treeAgainRow : OpenClaim := { program := "ytkflapebfmcmaaagreat", sum := "0b3132bcc40d14be68ad01fd4bfec254021af020dbb214b3ba916a23c8153c95", func := "candling/candlinglaw16.TreeAgain", spec := "treeAgain", unfollowed := true, recurses := true, loops := true, apart := false }
def TreeAgainSaid : Prop := treeAgainRow.holds Tryz.pinned (OpenSpec.ofChange treeAgainSpec)

/-- ITS FALSE NEIGHBOUR: 'it returns false'. Refute it at one input. -/
def treeAgainWrong : ChangeSpec := { name := "treeAgain", fn := fun _ => fun
  | [d] => { results := [.lit (.bool false)], args := [d] }
  | _ => none }
def TreeAgainWrongFalsely : Prop := treeAgainRow.holds Tryz.pinned (OpenSpec.ofChange treeAgainWrong)

/-- 'candlinglaw16.TreeEffects': WHATEVER THE INPUT: true; the input reads as it did. -/
def treeEffectsSpec : ChangeSpec := { name := "treeEffects", fn := fun _ => fun
  | [d] => { results := [.lit (.bool true)], args := [d] }
  | _ => none }
def treeEffectsRow : OpenClaim := { program := "ytkflapebfmcmaaagreat", sum := "0b3132bcc40d14be68ad01fd4bfec254021af020dbb214b3ba916a23c8153c95", func := "candling/candlinglaw16.TreeEffects", spec := "treeEffects", unfollowed := true, recurses := true, apart := false }
def TreeEffectsSaid : Prop := treeEffectsRow.holds Tryz.pinned (OpenSpec.ofChange treeEffectsSpec)

/-- ITS FALSE NEIGHBOUR: 'it returns false'. Refute it at one input. -/
def treeEffectsWrong : ChangeSpec := { name := "treeEffects", fn := fun _ => fun
  | [d] => { results := [.lit (.bool false)], args := [d] }
  | _ => none }
def TreeEffectsWrongFalsely : Prop := treeEffectsRow.holds Tryz.pinned (OpenSpec.ofChange treeEffectsWrong)

/-- 'candlinglaw16.TreeNeeds': WHATEVER THE INPUT: true; the input reads as it did. -/
def treeNeedsSpec : ChangeSpec := { name := "treeNeeds", fn := fun _ => fun
  | [d] => { results := [.lit (.bool true)], args := [d] }
  | _ => none }
def treeNeedsRow : OpenClaim := { program := "ytkflapebfmcmaaagreat", sum := "0b3132bcc40d14be68ad01fd4bfec254021af020dbb214b3ba916a23c8153c95", func := "candling/candlinglaw16.TreeNeeds", spec := "treeNeeds", unfollowed := true, recurses := true, loops := true, apart := false }
def TreeNeedsSaid : Prop := treeNeedsRow.holds Tryz.pinned (OpenSpec.ofChange treeNeedsSpec)

/-- ITS FALSE NEIGHBOUR: 'it returns false'. Refute it at one input. -/
def treeNeedsWrong : ChangeSpec := { name := "treeNeeds", fn := fun _ => fun
  | [d] => { results := [.lit (.bool false)], args := [d] }
  | _ => none }
def TreeNeedsWrongFalsely : Prop := treeNeedsRow.holds Tryz.pinned (OpenSpec.ofChange treeNeedsWrong)

/-- 'candlinglaw16.TreeParts': WHATEVER THE INPUT: true; the input reads as it did. -/
def treePartsSpec : ChangeSpec := { name := "treeParts", fn := fun _ => fun
  | [d] => { results := [.lit (.bool true)], args := [d] }
  | _ => none }
def treePartsRow : OpenClaim := { program := "ytkflapebfmcmaaagreat", sum := "0b3132bcc40d14be68ad01fd4bfec254021af020dbb214b3ba916a23c8153c95", func := "candling/candlinglaw16.TreeParts", spec := "treeParts", unfollowed := true, recurses := true, apart := false }
def TreePartsSaid : Prop := treePartsRow.holds Tryz.pinned (OpenSpec.ofChange treePartsSpec)

/-- ITS FALSE NEIGHBOUR: 'it returns false'. Refute it at one input. -/
def treePartsWrong : ChangeSpec := { name := "treeParts", fn := fun _ => fun
  | [d] => { results := [.lit (.bool false)], args := [d] }
  | _ => none }
def TreePartsWrongFalsely : Prop := treePartsRow.holds Tryz.pinned (OpenSpec.ofChange treePartsWrong)

/-- 'candlinglaw16.TreeNames': WHATEVER THE INPUT: true; the input reads as it did. -/
def treeNamesSpec : ChangeSpec := { name := "treeNames", fn := fun _ => fun
  | [d1, d2] => { results := [.lit (.bool true)], args := [d1, d2] }
  | _ => none }
def treeNamesRow : OpenClaim := { program := "ytkflapebfmcmaaagreat", sum := "0b3132bcc40d14be68ad01fd4bfec254021af020dbb214b3ba916a23c8153c95", func := "candling/candlinglaw16.TreeNames", spec := "treeNames", unfollowed := true, recurses := true, apart := false }
def TreeNamesSaid : Prop := treeNamesRow.holds Tryz.pinned (OpenSpec.ofChange treeNamesSpec)

/-- ITS FALSE NEIGHBOUR: 'it returns false'. Refute it at one input. -/
def treeNamesWrong : ChangeSpec := { name := "treeNames", fn := fun _ => fun
  | [d1, d2] => { results := [.lit (.bool false)], args := [d1, d2] }
  | _ => none }
def TreeNamesWrongFalsely : Prop := treeNamesRow.holds Tryz.pinned (OpenSpec.ofChange treeNamesWrong)

/- THE SECOND FORM. 'bulk': how many values and letters a reading holds, each counted each time it is reached (what is shared counts as often as it is met; a slice's spare places count too). A statement '..UptoSaid' is the law's where the arguments, and the package variables that the reading takes, are together of bulk at most 1048576: NARROWER than '..Said'. Prove '..Said' where nothing that the law and all that it calls make is longer than what came in: it says more and counts as full. Else prove '..UptoSaid'. A law counts once. -/
mutual
def uptoBulk {H : Type} : DataW H → Nat
  | .lit (.string bytes) => bytes.length + 1
  | .lit _ => 1
  | .nil => 1
  | .ptr d => uptoBulk d + 1
  | .slice elems spare => uptoBulkAll elems + uptoBulkAll spare + 1
  | .agg parts => uptoBulkAll parts + 1
  | .iface _ d => uptoBulk d + 1
  | .map entries => uptoBulkEntries entries + 1
  | .held _ => 1
def uptoBulkAll {H : Type} : List (DataW H) → Nat
  | [] => 0
  | d :: r => uptoBulk d + uptoBulkAll r
def uptoBulkEntries {H : Type} : List (Lit × DataW H) → Nat
  | [] => 0
  | x :: r => uptoBulkEntry x + uptoBulkEntries r
def uptoBulkEntry {H : Type} : Lit × DataW H → Nat
  | (.string bytes, d) => bytes.length + uptoBulk d + 1
  | (_, d) => uptoBulk d + 1
 end
def uptoSmall : (H : Type) → List (DataW H) → Bool := fun _ ds => decide (uptoBulkAll ds ≤ 1048576)
def OpenSpec.upto (s : _root_.Go.ChangeSpec) : _root_.Go.OpenSpec := { _root_.Go.OpenSpec.ofChange s with cond := some uptoSmall }

/-- 'candlinglaw16.TreeBuilds', WHERE WHAT IT READS IS OF BULK AT MOST 1048576: true; the input reads as it did. -/
def treeBuildsUptoRow : OpenClaim := { program := "ytkflapebfmcmaaagreat", sum := "0b3132bcc40d14be68ad01fd4bfec254021af020dbb214b3ba916a23c8153c95", func := "candling/candlinglaw16.TreeBuilds", spec := "treeBuilds", unfollowed := true, recurses := true, apart := false, narrowed := true }
def TreeBuildsUptoSaid : Prop := treeBuildsUptoRow.holds Tryz.pinned (OpenSpec.upto treeBuildsSpec)

/-- 'candlinglaw16.TreeFlats', WHERE WHAT IT READS IS OF BULK AT MOST 1048576: true; the input reads as it did. -/
def treeFlatsUptoRow : OpenClaim := { program := "ytkflapebfmcmaaagreat", sum := "0b3132bcc40d14be68ad01fd4bfec254021af020dbb214b3ba916a23c8153c95", func := "candling/candlinglaw16.TreeFlats", spec := "treeFlats", unfollowed := true, recurses := true, loops := true, apart := false, narrowed := true }
def TreeFlatsUptoSaid : Prop := treeFlatsUptoRow.holds Tryz.pinned (OpenSpec.upto treeFlatsSpec)

/-- 'candlinglaw16.TreePlains', WHERE WHAT IT READS IS OF BULK AT MOST 1048576: true; the input reads as it did. -/
def treePlainsUptoRow : OpenClaim := { program := "ytkflapebfmcmaaagreat", sum := "0b3132bcc40d14be68ad01fd4bfec254021af020dbb214b3ba916a23c8153c95", func := "candling/candlinglaw16.TreePlains", spec := "treePlains", unfollowed := true, recurses := true, apart := false, narrowed := true }
def TreePlainsUptoSaid : Prop := treePlainsUptoRow.holds Tryz.pinned (OpenSpec.upto treePlainsSpec)

/-- 'candlinglaw16.TreeOnce', WHERE WHAT IT READS IS OF BULK AT MOST 1048576: true; the input reads as it did. -/
def treeOnceUptoRow : OpenClaim := { program := "ytkflapebfmcmaaagreat", sum := "0b3132bcc40d14be68ad01fd4bfec254021af020dbb214b3ba916a23c8153c95", func := "candling/candlinglaw16.TreeOnce", spec := "treeOnce", unfollowed := true, recurses := true, apart := false, narrowed := true }
def TreeOnceUptoSaid : Prop := treeOnceUptoRow.holds Tryz.pinned (OpenSpec.upto treeOnceSpec)

/-- 'candlinglaw16.TreeAgain', WHERE WHAT IT READS IS OF BULK AT MOST 1048576: true; the input reads as it did. -/
def treeAgainUptoRow : OpenClaim := { program := "ytkflapebfmcmaaagreat", sum := "0b3132bcc40d14be68ad01fd4bfec254021af020dbb214b3ba916a23c8153c95", func := "candling/candlinglaw16.TreeAgain", spec := "treeAgain", unfollowed := true, recurses := true, loops := true, apart := false, narrowed := true }
def TreeAgainUptoSaid : Prop := treeAgainUptoRow.holds Tryz.pinned (OpenSpec.upto treeAgainSpec)

/-- 'candlinglaw16.TreeEffects', WHERE WHAT IT READS IS OF BULK AT MOST 1048576: true; the input reads as it did. -/
def treeEffectsUptoRow : OpenClaim := { program := "ytkflapebfmcmaaagreat", sum := "0b3132bcc40d14be68ad01fd4bfec254021af020dbb214b3ba916a23c8153c95", func := "candling/candlinglaw16.TreeEffects", spec := "treeEffects", unfollowed := true, recurses := true, apart := false, narrowed := true }
def TreeEffectsUptoSaid : Prop := treeEffectsUptoRow.holds Tryz.pinned (OpenSpec.upto treeEffectsSpec)

/-- 'candlinglaw16.TreeNeeds', WHERE WHAT IT READS IS OF BULK AT MOST 1048576: true; the input reads as it did. -/
def treeNeedsUptoRow : OpenClaim := { program := "ytkflapebfmcmaaagreat", sum := "0b3132bcc40d14be68ad01fd4bfec254021af020dbb214b3ba916a23c8153c95", func := "candling/candlinglaw16.TreeNeeds", spec := "treeNeeds", unfollowed := true, recurses := true, loops := true, apart := false, narrowed := true }
def TreeNeedsUptoSaid : Prop := treeNeedsUptoRow.holds Tryz.pinned (OpenSpec.upto treeNeedsSpec)

/-- 'candlinglaw16.TreeParts', WHERE WHAT IT READS IS OF BULK AT MOST 1048576: true; the input reads as it did. -/
def treePartsUptoRow : OpenClaim := { program := "ytkflapebfmcmaaagreat", sum := "0b3132bcc40d14be68ad01fd4bfec254021af020dbb214b3ba916a23c8153c95", func := "candling/candlinglaw16.TreeParts", spec := "treeParts", unfollowed := true, recurses := true, apart := false, narrowed := true }
def TreePartsUptoSaid : Prop := treePartsUptoRow.holds Tryz.pinned (OpenSpec.upto treePartsSpec)

/-- 'candlinglaw16.TreeNames', WHERE WHAT IT READS IS OF BULK AT MOST 1048576: true; the input reads as it did. -/
def treeNamesUptoRow : OpenClaim := { program := "ytkflapebfmcmaaagreat", sum := "0b3132bcc40d14be68ad01fd4bfec254021af020dbb214b3ba916a23c8153c95", func := "candling/candlinglaw16.TreeNames", spec := "treeNames", unfollowed := true, recurses := true, apart := false, narrowed := true }
def TreeNamesUptoSaid : Prop := treeNamesUptoRow.holds Tryz.pinned (OpenSpec.upto treeNamesSpec)

end Rows
end Go.Proofs.YtkflapebfmcmaaaGreat
