/- Parts of the proofs of this seat's laws. -/
import Derived.Test.YtkflapebfmcmaaaGreatBOnce17
import Derived.Test.YtkflapebfmcmaaaGreatBOnce19
import Derived.Test.YtkflapebfmcmaaaGreatBOnce20
section
namespace Go.Proofs.YtkflapebfmcmaaaGreat
open Go Go.Sv Go.RowKit
set_option linter.all false
set_option maxRecDepth 100000

/-- The contracts of both interpreters. -/
theorem kp_kk (p36 : List SV → St → Option (SV × St)) (p12 : Option (List SV → St → Option (SV × St))) (h36 : PrimOK Tryz.prog 36 p36) (h12 : ∀ p, p12 = some p → PrimOK Tryz.prog 12 p) : KP (kkOf p36 p12) := by
  intro f p h
  have h : (if f = 12 then p12 else prims p36 f) = some p := h
  split at h
  · rename_i hf; subst hf; exact h12 p h
  · unfold prims at h
    split at h
    · rename_i hf; subst hf; injection h with h; subst h; exact clone57
    · split at h
      · rename_i hf; subst hf; injection h with h; subst h; exact clone69
      · split at h
        · rename_i hf; subst hf; injection h with h; subst h; exact clone70
        · split at h
          · rename_i hf; subst hf; injection h with h; subst h; exact delete_ok
          · split at h
            · rename_i hf; subst hf; injection h with h; subst h; exact sorted_ok
            · split at h
              · rename_i hf; subst hf; injection h with h; subst h; exact h36
              · cases h

theorem run36 : PrimOK Tryz.prog 36 (fun a S => run k1 (.func 36 [] []) a S) :=
  prim_of_run ks_k1 kp_k1 ⟨_, _, Tryz.func36, by kernel_rfl, rfl⟩ rfl fun g w us args x S S' hp ha => ⟨args, x, ha, hp, fun _ _ _ h => h⟩
theorem lvl36 : PrimOK Tryz.prog 36 (fun a S => lvl k1 100 (.func 36 [] []) a S) :=
  prim_of_run ks_k1 kp_k1 ⟨_, _, Tryz.func36, by kernel_rfl, rfl⟩ rfl fun g w us args x S S' hp ha => ⟨args, x, ha, run_iff.2 ⟨100, hp⟩, fun _ _ _ h => h⟩

theorem ks_k2 : KS k2 := ks_kk _ _
theorem kp_k2 : KP k2 := kp_kk _ _ lvl36 (fun p h => by cases h)

/-- The chapter's examples hold. -/
theorem sane_ok : PrimOK Tryz.prog 12 saneP := by
  refine prim_of_calls ⟨_, _, Tryz.func12, by kernel_rfl, rfl⟩ ?_
  intro w0 g S w us args x S' hp hG ha
  unfold saneP at hp
  split at hp
  case h_2 => cases hp
  simp only [Option.some.injEq, Prod.mk.injEq] at hp
  obtain ⟨rfl, rfl⟩ := hp
  obtain ⟨S2, hr⟩ := outc_some sane_out
  have hal := ha.1
  have hcalls := run_calls ks_k2 kp_k2 (f := 12) rfl (run_iff.2 ⟨400, hr⟩) w (us := us) ⟨hal, fun i c hi => by simp at hi⟩
  refine hcalls.mono fun e w' ⟨v, g', he, hv, _, hb⟩ => ⟨v, he, ?_⟩
  obtain ⟨G1, T1⟩ := G.grown hG hb
  exact ⟨g, by cases hv; exact .v _, G1, T1⟩

theorem ks_kt : KS kt := ks_kk _ _
theorem kp_kt : KP kt := kp_kk _ _ run36 (fun p h => by injection h with h; subst h; exact sane_ok)
end Go.Proofs.YtkflapebfmcmaaaGreat
end
