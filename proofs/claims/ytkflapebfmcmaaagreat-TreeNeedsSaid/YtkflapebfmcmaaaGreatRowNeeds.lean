/- A part of the proofs of this seat's laws: an interpreter of the program's form, its soundness against the model, or what it answers on this program. -/
import Derived.Test.YtkflapebfmcmaaaGreatRows
import Derived.Test.YtkflapebfmcmaaaGreatTK
import Derived.Test.YtkflapebfmcmaaaGreatSvZ
import Derived.ProofKit
import Derived.SizedLaws
import Derived.Lib.RowBridge
import Derived.Carry
namespace Go.Proofs.YtkflapebfmcmaaaGreat
open Go Go.ChangeShapes Go.WideShapes Go.ChangeAt Go.RowKit Go.Sv
set_option linter.all false
set_option maxRecDepth 100000

theorem own : ownKnob Tryz.prog.godebug = none := by kernel_rfl
theorem laidOut : laidOutB Tryz.prog = true := by kernel_rfl
def types : List TypeId := [3, 22, 23, 24, 25, 26, 27, 28, 29, 31, 34, 35, 37, 39, 40, 53, 55, 57, 59, 108]
theorem readable : readT Tryz.prog types = true := by kernel_rfl

theorem getD_toList (cs : Array Value) (i : Nat) : cs.getD i undef = (Value.agg cs).cells.toList.getD i undef := by
  simp only [Value.cells, Array.getD, List.getD, Array.getElem?_toList]
  split <;> rename_i h <;> simp_all [Array.getElem?_eq_getElem, Array.getElem?_eq_none]

/-- An argument that came in, as a value of the interpreter's. -/
theorem arg_agg {H : Type} {enc : TypeId × Value → H} {W : World} {base : Nat} {t : TypeId} {v : Value} {d : DataW H} {p : List MemPlace} (ht : types.contains t = true) (ha : ∀ fs, Tryz.prog.underlying t = some (.struct fs) → True)
    (hs : ∃ fs, Tryz.prog.underlying t = some (.struct fs)) (hok : Value.okWide Tryz.prog W .any base t v) (h : DataW.Trod enc Tryz.prog W 0 (fun _ => true) true t v d p) :
    ∃ n scs, R (gh0 W) W v (.agg scs) ∧ ShF Tryz.prog n t scs := by
  obtain ⟨fs, hs⟩ := hs
  unfold Value.okWide at hok
  simp only [hs] at hok
  obtain ⟨cs, rfl, hcs, _⟩ := hok
  obtain ⟨fuel, h⟩ := h
  obtain ⟨scs, ⟨h1, h2⟩, h3⟩ := read_gen readable fuel t _ _ ht h
  refine ⟨fuel, scs, .agg scs cs (by simpa [Value.cells] using h1.symm) (fun i c hi => ?_) (fun i c hi => ?_), h3⟩
  · rw [getD_toList]; exact (h2 i c hi).2
  · rw [getD_toList]; exact (h2 i c hi).1



set_option maxHeartbeats 800000 in
theorem needs_lifted (kt : K) (hks : KS kt) (hkp : KP kt) (hP : kt.P = Tryz.prog) (hp9 : kt.prim 9 = none) (hrun : ∀ n scs, ShF Tryz.prog n 37 scs → ∃ S', run kt (.func 9 [] []) [.agg scs] St0 = some (.v (.bool true), S'))
    (os : Os) (started : os.Started) (H : Type) (enc : TypeId × Value → H) :
    ReturnsInHanded {} Tryz.checked os 9 .any (Rows.treeNeedsSpec.pre6 enc Tryz.prog Tryz.f9 Rows.treeNeedsRow.domain false) (Rows.treeNeedsSpec.post enc Tryz.prog Tryz.f9 false true false false) := by
  refine returnsInHanded_of_change (C := Tryz.checked) own started (by kernel_rfl) Tryz.func9
    (ChangeSpec.witness6 (enc := enc) (C := Tryz.checked) false ⟨#[], #[.agg #[.int .i64 0, .int .i64 0, .int .u32 0, .int .u32 0, .int .u32 0, .int .u32 0, .int .i64 0, .int .i64 0, .int .i64 0, .int .i64 0, .slice none 0 0]], []⟩ 8 (by kernel_rfl) (by kernel_rfl) (by kernel_rfl) (by kernel_rfl)) ?_
  intro W base args ds gs before hval0 hW _ _
  have hval : ∀ (j : Nat) t v, Tryz.f9.params[j]? = some t → args[j]? = some v → Value.okWide Tryz.prog W .any base t v := hval0
  have hW' := hW
  obtain ⟨p, q, hA0, hV, rfl, _, _⟩ := hW
  have hA : DataW.TrodAll enc Tryz.prog W 0 (fun _ => true) true Tryz.f9.params.toList args.toList ds p := hA0
  rw [Tryz.params9] at hA hval
  obtain ⟨v0, d0, rfl, rfl, h0⟩ := trodAll_one hA
  obtain ⟨rfl, rfl⟩ := trodVars_none hV
  obtain ⟨n, scs, hR, hsh⟩ := arg_agg (t := 37) (by decide) (fun _ _ => trivial) ⟨_, Tryz.underlying37⟩ (hval 0 37 v0 rfl rfl) h0
  obtain ⟨S', hr⟩ := hrun n scs hsh
  clear hA0 hval0
  simp only [List.append_nil] at hW'
  have hlt : ∀ y ∈ p, y.block < W.heap.size := fun y hy => by simpa using hW'.lt y (by simp [hy])
  have harg : ∀ W' : World, Below W.heap.size W W' → DataW.Trod enc Tryz.prog W' 0 (fun b => decide (b < W.heap.size)) true 37 v0 d0 p :=
    fun W' hn => Below.trod laidOut (by kernel_rfl) (of_decide_eq_true (by kernel_rfl)) h0 hn hlt
  have hcalls := run_calls hks hkp hp9 hr W (us := #[v0]) ⟨rfl, fun i c hi => by
    cases i with
    | zero => simp at hi; subst hi; exact hR
    | succ i => simp at hi⟩
  rw [hP] at hcalls
  refine hcalls.mono fun e W' ⟨v, g', he, hv, _, hn⟩ => ?_
  subst he
  obtain rfl : v = .bool true := by cases hv; rfl
  exact ⟨_, rfl, _, _, _, [], _, [], hW', trodAll_mk1 (shut_bool Tryz.underlying4 true), trodAll_mk1 (harg _ hn), rfl, hn.frame _, fun h => by cases h⟩

theorem needs_holds (kt : K) (hks : KS kt) (hkp : KP kt) (hP : kt.P = Tryz.prog) (hp9 : kt.prim 9 = none) (hrun : ∀ n scs, ShF Tryz.prog n 37 scs → ∃ S', run kt (.func 9 [] []) [.agg scs] St0 = some (.v (.bool true), S')) : Rows.TreeNeedsSaid :=
  OpenClaim.holds_of_wide 9 Tryz.f9 rfl rfl rfl rfl rfl rfl rfl ⟨rfl, rfl, rfl, rfl, rfl⟩ rfl rfl rfl rfl rfl (by kernel_rfl) Tryz.func9 (by kernel_rfl)
    (of_decide_eq_true (by kernel_rfl)) (by unfold Func.isWrapper; first | (rw [if_pos (by decide +kernel)]; kernel_rfl) | (rw [if_neg (by decide +kernel)]; exact ⟨rfl, rfl⟩))
    (fun os started H enc _ => needs_lifted kt hks hkp hP hp9 hrun os started H enc)
end Go.Proofs.YtkflapebfmcmaaaGreat
