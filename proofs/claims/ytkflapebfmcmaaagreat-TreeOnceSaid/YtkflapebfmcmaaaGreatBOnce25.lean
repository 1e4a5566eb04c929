/- Parts of the proofs of this seat's laws. -/
import Derived.Test.YtkflapebfmcmaaaGreatBOnce24
section
namespace Go.Proofs.YtkflapebfmcmaaaGreat
open Go Go.ChangeShapes Go.WideShapes Go.ChangeAt Go.RowKit Go.Sv
set_option linter.all false
set_option maxRecDepth 100000

set_option maxHeartbeats 800000 in
theorem once_lifted (kt : K) (hks : KS kt) (hkp : KP kt) (hP : kt.P = Tryz.prog) (hp : kt.prim 6 = none) (hrun : ∀ n scs, ShW Tryz.prog n 31 scs → ∃ S', run kt (.func 6 [] []) [.agg scs] St0 = some (.v (.bool true), S'))
    (os : Os) (started : os.Started) (H : Type) (enc : TypeId × Value → H) :
    ReturnsInHanded {} Tryz.checked os 6 .any (Rows.treeOnceSpec.pre6 enc Tryz.prog Tryz.f6 Rows.treeOnceRow.domain false) (Rows.treeOnceSpec.post enc Tryz.prog Tryz.f6 false true false false) := by
  refine returnsInHanded_of_change_sized (C := Tryz.checked) own started (by kernel_rfl) Tryz.func6
    (ChangeSpec.witness6 (enc := enc) (C := Tryz.checked) false ⟨#[], #[.agg #[.slice none 0 0, .slice none 0 0, .int .i64 0, .int .i64 0, .int .u32 0, .int .u32 0, .int .u32 0, .int .u32 0, .int .i64 0, .slice none 0 0]], []⟩ 8 (by kernel_rfl) (by kernel_rfl) (by kernel_rfl) (by kernel_rfl)) ?_
  intro W base args ds gs before hval0 hW _ hz0 _
  have hval : ∀ (j : Nat) t v, Tryz.f6.params[j]? = some t → args[j]? = some v → Value.okWide Tryz.prog W .any base t v := hval0
  have hW' := hW
  obtain ⟨p, q, hA0, hV, rfl, _, _⟩ := hW
  have hA : DataW.TrodAll enc Tryz.prog W 0 (fun _ => true) true Tryz.f6.params.toList args.toList ds p := hA0
  have hz : (DataW.weightsEach Tryz.prog (Tryz.f6.params.toList ++ Rows.treeOnceSpec.plain.varTypes Tryz.prog) (ds ++ gs)).all (· ≤ reachBytes) = true := hz0
  rw [Tryz.params6] at hA hval hz
  obtain ⟨v0, d0, rfl, rfl, h0⟩ := trodAll_one hA
  obtain ⟨rfl, rfl⟩ := trodVars_none hV
  have hw0 : ∀ n ∈ d0.weights Tryz.prog 31, n ≤ reachBytes := fun n hn => by
    have := List.all_eq_true.1 hz n (DataW.weights_mem_each (j := 0) (t := 31) (d := d0) rfl rfl n hn)
    simpa using this
  obtain ⟨n, scs, hR, hsh⟩ := arg_aggW (t := 31) (by decide) ⟨_, Tryz.underlying31⟩ (hval 0 31 v0 rfl rfl) h0 hw0
  obtain ⟨S', hr⟩ := hrun n scs hsh
  clear hA0 hval0 hz0 hz
  simp only [List.append_nil] at hW'
  have hlt : ∀ y ∈ p, y.block < W.heap.size := fun y hy => by simpa using hW'.lt y (by simp [hy])
  have harg : ∀ W' : World, Below W.heap.size W W' → DataW.Trod enc Tryz.prog W' 0 (fun b => decide (b < W.heap.size)) true 31 v0 d0 p :=
    fun W' hn => Below.trod laidOut (by kernel_rfl) (of_decide_eq_true (by kernel_rfl)) h0 hn hlt
  have hcalls := run_calls hks hkp hp hr W (us := #[v0]) ⟨rfl, fun i c hi => by
    cases i with
    | zero => simp at hi; subst hi; exact hR
    | succ i => simp at hi⟩
  rw [hP] at hcalls
  refine hcalls.mono fun e W' ⟨v, g', he, hv, _, hn⟩ => ?_
  subst he
  obtain rfl : v = .bool true := by cases hv; rfl
  exact ⟨_, rfl, _, _, _, [], _, [], hW', trodAll_mk1 (shut_bool Tryz.underlying4 true), trodAll_mk1 (harg _ hn), rfl, hn.frame _, fun h => by cases h⟩

theorem once_holds (kt : K) (hks : KS kt) (hkp : KP kt) (hP : kt.P = Tryz.prog) (hp : kt.prim 6 = none) (hrun : ∀ n scs, ShW Tryz.prog n 31 scs → ∃ S', run kt (.func 6 [] []) [.agg scs] St0 = some (.v (.bool true), S')) : Rows.TreeOnceSaid :=
  OpenClaim.holds_of_wide 6 Tryz.f6 rfl rfl rfl rfl rfl rfl rfl ⟨rfl, rfl, rfl, rfl, rfl⟩ rfl rfl rfl rfl rfl (by kernel_rfl) Tryz.func6 (by kernel_rfl)
    (of_decide_eq_true (by kernel_rfl)) (by unfold Func.isWrapper; first | (rw [if_pos (by decide +kernel)]; kernel_rfl) | (rw [if_neg (by decide +kernel)]; exact ⟨rfl, rfl⟩))
    (fun os started H enc _ => once_lifted kt hks hkp hP hp hrun os started H enc)
end Go.Proofs.YtkflapebfmcmaaaGreat
end
