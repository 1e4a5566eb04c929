/- Parts of the proofs of this seat's laws: an interpreter of the program's form, its soundness against the model, or what it answers on this program. -/
import Derived.Test.YtkflapebfmcmaaaGreatBBuilds23
import Derived.Test.YtkflapebfmcmaaaGreatBBuilds24
namespace Go.Proofs.YtkflapebfmcmaaaGreat
open Go Go.ChangeShapes Go.WideShapes Go.ChangeAt Go.RowKit Go.Sv
set_option linter.all false
set_option maxRecDepth 100000

/-- An argument that came in and is of a size, as a value of the interpreter's. -/
theorem arg_aggW {H : Type} {enc : TypeId × Value → H} {W : World} {base : Nat} {t : TypeId} {v : Value} {d : DataW H} {p : List MemPlace} (ht : types.contains t = true)
    (hs : ∃ fs, Tryz.prog.underlying t = some (.struct fs)) (hok : Value.okWide Tryz.prog W .any base t v) (h : DataW.Trod enc Tryz.prog W 0 (fun _ => true) true t v d p) (hw : ∀ n ∈ d.weights Tryz.prog t, n ≤ reachBytes) :
    ∃ n scs, R (gh0 W) W v (.agg scs) ∧ ShW Tryz.prog n t scs := by
  obtain ⟨fs, hs⟩ := hs
  unfold Value.okWide at hok
  simp only [hs] at hok
  obtain ⟨cs, rfl, hcs, _⟩ := hok
  obtain ⟨fuel, h⟩ := h
  obtain ⟨scs, ⟨h1, h2⟩, h3⟩ := read_genW readable fuel t _ _ ht h hw
  refine ⟨fuel, scs, .agg scs cs (by simpa [Value.cells] using h1.symm) (fun i c hi => ?_) (fun i c hi => ?_), h3⟩
  · rw [getD_toList]; exact (h2 i c hi).2
  · rw [getD_toList]; exact (h2 i c hi).1

set_option maxHeartbeats 800000 in
theorem builds_lifted (kt : K) (hks : KS kt) (hkp : KP kt) (hP : kt.P = Tryz.prog) (hp : kt.prim 3 = none) (hrun : ∀ n scs, ShW Tryz.prog n 31 scs → ∃ S', run kt (.func 3 [] []) [.agg scs] St0 = some (.v (.bool true), S'))
    (os : Os) (started : os.Started) (H : Type) (enc : TypeId × Value → H) :
    ReturnsInHanded {} Tryz.checked os 3 .any (Rows.treeBuildsSpec.pre6 enc Tryz.prog Tryz.f3 Rows.treeBuildsRow.domain false) (Rows.treeBuildsSpec.post enc Tryz.prog Tryz.f3 false true false false) := by
  refine returnsInHanded_of_change_sized (C := Tryz.checked) own started (by kernel_rfl) Tryz.func3
    (ChangeSpec.witness6 (enc := enc) (C := Tryz.checked) false ⟨#[], #[.agg #[.slice none 0 0, .slice none 0 0, .int .i64 0, .int .i64 0, .int .u32 0, .int .u32 0, .int .u32 0, .int .u32 0, .int .i64 0, .slice none 0 0]], []⟩ 8 (by kernel_rfl) (by kernel_rfl) (by kernel_rfl) (by kernel_rfl)) ?_
  intro W base args ds gs before hval0 hW _ hz0 _
  have hval : ∀ (j : Nat) t v, Tryz.f3.params[j]? = some t → args[j]? = some v → Value.okWide Tryz.prog W .any base t v := hval0
  have hW' := hW
  obtain ⟨p, q, hA0, hV, rfl, _, _⟩ := hW
  have hA : DataW.TrodAll enc Tryz.prog W 0 (fun _ => true) true Tryz.f3.params.toList args.toList ds p := hA0
  have hz : (DataW.weightsEach Tryz.prog (Tryz.f3.params.toList ++ Rows.treeBuildsSpec.plain.varTypes Tryz.prog) (ds ++ gs)).all (· ≤ reachBytes) = true := hz0
  rw [Tryz.params3] at hA hval hz
  obtain ⟨v0, d0, rfl, rfl, h0⟩ := trodAll_one hA
  obtain ⟨rfl, rfl⟩ := trodVars_none hV
  have hw0 : ∀ n ∈ d0.weights Tryz.prog 31, n ≤ reachBytes := fun n hn => by
    have := List.all_eq_true.1 hz n (DataW.weights_mem_each (j := 0) (t := 31) (d := d0) rfl rfl n hn)
    simpa using this
  obtain ⟨n, scs, hR, hsh⟩ := arg_aggW (t := 31) (by decide) ⟨_, Tryz.underlying31⟩ (hval 0 31 v0 rfl rfl) h0 hw0
  obtain ⟨S', hr⟩ := hrun n scs hsh
  clear hA0 hval0 hz0 hz
  simp only [List.append_nil] at hW'
  have hlt : ∀ y ∈ p, y.block < W.heap.size := fun y hy => by simpa using hW'.lt y (by simp [hy])
  have harg : ∀ W' : World, Below W.heap.size W W' → DataW.Trod enc Tryz.prog W' 0 (fun b => decide (b < W.heap.size)) true 31 v0 d0 p :=
    fun W' hn => Below.trod laidOut (by kernel_rfl) (of_decide_eq_true (by kernel_rfl)) h0 hn hlt
  have hcalls := run_calls hks hkp hp hr W (us := #[v0]) ⟨rfl, fun i c hi => by
    cases i with
    | zero => simp at hi; subst hi; exact hR
    | succ i => simp at hi⟩
  rw [hP] at hcalls
  refine hcalls.mono fun e W' ⟨v, g', he, hv, _, hn⟩ => ?_
  subst he
  obtain rfl : v = .bool true := by cases hv; rfl
  exact ⟨_, rfl, _, _, _, [], _, [], hW', trodAll_mk1 (shut_bool Tryz.underlying4 true), trodAll_mk1 (harg _ hn), rfl, hn.frame _, fun h => by cases h⟩

theorem builds_holds (kt : K) (hks : KS kt) (hkp : KP kt) (hP : kt.P = Tryz.prog) (hp : kt.prim 3 = none) (hrun : ∀ n scs, ShW Tryz.prog n 31 scs → ∃ S', run kt (.func 3 [] []) [.agg scs] St0 = some (.v (.bool true), S')) : Rows.TreeBuildsSaid :=
  OpenClaim.holds_of_wide 3 Tryz.f3 rfl rfl rfl rfl rfl rfl rfl ⟨rfl, rfl, rfl, rfl, rfl⟩ rfl rfl rfl rfl rfl (by kernel_rfl) Tryz.func3 (by kernel_rfl)
    (of_decide_eq_true (by kernel_rfl)) (by unfold Func.isWrapper; first | (rw [if_pos (by decide +kernel)]; kernel_rfl) | (rw [if_neg (by decide +kernel)]; exact ⟨rfl, rfl⟩))
    (fun os started H enc _ => builds_lifted kt hks hkp hP hp hrun os started H enc)
end Go.Proofs.YtkflapebfmcmaaaGreat
