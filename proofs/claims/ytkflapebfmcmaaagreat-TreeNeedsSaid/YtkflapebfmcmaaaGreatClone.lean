/- A part of the proofs of this seat's laws: an interpreter of the program's form, its soundness against the model, or what it answers on this program. -/
import Derived.Test.YtkflapebfmcmaaaGreatKs
import Derived.Test.YtkflapebfmcmaaaGreatSvV
namespace Go.Proofs.YtkflapebfmcmaaaGreat
open Go Go.Sv Go.RowKit
set_option linter.all false
set_option maxRecDepth 100000

def h0 : H := { cd := fun _ => none, res := fun _ => [], live := fun _ => [], keep := fun _ => none }

theorem append_emp {k : K} {t e : TypeId} {sz by_ : Nat} {z : List SV} (he : elem? k t = some e) (hs : size? k e = some sz) (hb : bytes? k e = some by_) (hz : zero? k e = some z) (h0 : sz ≠ 0) (h1 : by_ ≠ 0) (h2 : z.length = sz) (hbx : k.inBox e = 0)
    {id : Option Nat} {n : Nat} {cs : List SV} {S : St} (hn : n ≠ 0) (hl : cs.length = n * sz) (hr : n * by_ ≤ room) : appendE k t .emp (.sl id n cs) S = some (.sl (some S.next) n cs, S.alloc (.own sz cs.length)) := by
  simp [appendE, he, hs, hb, hz, srcCells, hl, h0, h1, h2, hn, hr, hbx]

theorem clone_ok (f sz by_ : Nat) (hp0 : k0.prim f = none) (hent : ∃ fn body, k0.P.funcs[f]? = some fn ∧ (fn.name == "runtime.NumGoroutine") = false ∧ fn.body = some body)
    (hnil : ∀ S, run k0 (.func f [] []) [.v (.slice none 0 0)] S = some (.v (.slice none 0 0), S))
    (hemp : ∀ a c S, run k0 (.func f [] []) [.v (.slice (some a) 0 c)] S = some (.emp, S))
    (hsome : ∀ id m cs S, cs.length = (m + 1) * sz → (m + 1) * by_ ≤ room → run k0 (.func f [] []) [.sl id (m + 1) cs] S = some (.sl (some S.next) (m + 1) cs, S.alloc (.own sz cs.length))) : PrimOK k0.P f (clone sz by_) := by
  refine prim_of_run ks_k0 kp_k0 hent hp0 ?_
  intro g w us args x S S' hp ha
  have zero : ∀ {u : Value} {y : SV}, R g w u y → (∃ a c, u = .slice (some a) 0 c) ∨ u = .slice none 0 0 → us = [u] → x = .emp → S' = S → ∃ args2 x2, Rs g w us args2 ∧ run k0 (.func f [] []) args2 S = some (x2, S') ∧ ∀ g' w' v, R g' w' v x2 → R g' w' v x := by
    rintro u y hu h rfl rfl rfl
    rcases h with ⟨a, c, rfl⟩ | rfl
    · exact ⟨[.v (.slice (some a) 0 c)], .emp, ⟨rfl, fun i c hi => by cases i with | zero => simp at hi; subst hi; exact .v _ | succ i => simp at hi⟩, hemp _ _ _, fun _ _ _ h => h⟩
    · refine ⟨[.v (.slice none 0 0)], .v (.slice none 0 0), ⟨rfl, fun i c hi => by cases i with | zero => simp at hi; subst hi; exact .v _ | succ i => simp at hi⟩, hnil _, fun _ _ _ h => ?_⟩
      cases h; exact .nil0
  have one : ∀ {y : SV}, args = [y] → ∃ u, us = [u] ∧ R g w u y := by
    rintro y rfl
    obtain ⟨hl, h⟩ := ha
    match us, hl with
    | [u], _ => exact ⟨u, rfl, by simpa using h 0 y rfl⟩
  unfold clone at hp
  split at hp
  · rename_i id n cs
    obtain ⟨u, rfl, hu⟩ := one rfl
    split at hp
    · rename_i hn
      simp only [Option.some.injEq, Prod.mk.injEq] at hp
      obtain ⟨rfl, rfl⟩ := hp
      refine zero hu ?_ rfl rfl rfl
      subst hn
      cases hu with
      | sl B o n c cs f h1 h2 h3 => exact .inl ⟨_, _, rfl⟩
      | own b n cs f h0 h1 h2 h3 => exact .inl ⟨_, _, rfl⟩
      | nil => exact .inr rfl
      | slz a c => exact .inl ⟨_, _, rfl⟩
    · rename_i hn
      split at hp
      · rename_i hc
        simp only [Option.some.injEq, Prod.mk.injEq] at hp
        obtain ⟨rfl, rfl⟩ := hp
        obtain ⟨m, rfl⟩ : ∃ m, n = m + 1 := ⟨n - 1, by omega⟩
        exact ⟨_, _, ha, hsome id m cs S hc.1 hc.2, fun _ _ _ h => h⟩
      · cases hp
  · obtain ⟨u, rfl, hu⟩ := one rfl
    simp only [Option.some.injEq, Prod.mk.injEq] at hp
    obtain ⟨rfl, rfl⟩ := hp
    refine zero hu ?_ rfl rfl rfl
    cases hu with
    | emp B o => exact .inl ⟨_, _, rfl⟩
    | nil0 => exact .inr rfl
  · obtain ⟨u, rfl, hu⟩ := one rfl
    simp only [Option.some.injEq, Prod.mk.injEq] at hp
    obtain ⟨rfl, rfl⟩ := hp
    refine zero hu ?_ rfl rfl rfl
    cases hu; exact .inr rfl
  · cases hp

theorem elem53 : elem? (k0.at 57) 53 = some 28 := by kernel_rfl
theorem size28 : size? (k0.at 57) 28 = some 6 := by kernel_rfl
theorem bytes28 : bytes? (k0.at 57) 28 = some 32 := by kernel_rfl
theorem zlen {x : Option (List SV)} {n : Nat} (h : x.map List.length = some n) : ∃ z, x = some z ∧ z.length = n := by
  cases x with
  | none => cases h
  | some z => exact ⟨z, rfl, by simpa using h⟩
theorem zero28 : ∃ z, zero? (k0.at 57) 28 = some z ∧ z.length = 6 := zlen (by kernel_rfl)
theorem fn57 : k0.fns 57 = some (compF Tryz.f57) := by kernel_rfl
theorem clone57 : PrimOK Tryz.prog 57 (clone 6 32) := by
  refine clone_ok 57 6 32 rfl ⟨_, _, Tryz.func57, by kernel_rfl, rfl⟩ (fun S => ?_) (fun a c S => ?_) (fun id m cs S hl hr => ?_)
  · exact go_plain ks_k0 h0 0 rfl fn57 rfl (by kernel_rfl)
  · exact go_plain ks_k0 h0 0 rfl fn57 rfl (by kernel_rfl)
  · refine go_plain ks_k0 h0 0 rfl fn57 rfl ?_
    obtain ⟨z, hz, hzl⟩ := zero28
    have e : cBody (k0.at 57) h0 (run k0) 0 (compF Tryz.f57) [.sl id (m + 1) cs] S = (appendE (k0.at 57) 53 .emp (.sl id (m + 1) cs) S).bind fun p => some (p.1, p.2) := by kernel_rfl
    have := append_emp (S := S) (id := id) elem53 size28 bytes28 hz (by decide) (by decide) hzl rfl (show m + 1 ≠ 0 by omega) hl hr
    rw [List.append_nil, List.nil_append, e, this]; rfl
theorem elem69x : elem? (k0.at 69) 22 = some 3 := by kernel_rfl
theorem size69x : size? (k0.at 69) 3 = some 1 := by kernel_rfl
theorem bytes69x : bytes? (k0.at 69) 3 = some 8 := by kernel_rfl
theorem zero69x : ∃ z, zero? (k0.at 69) 3 = some z ∧ z.length = 1 := zlen (by kernel_rfl)
theorem fn69 : k0.fns 69 = some (compF Tryz.f69) := by kernel_rfl
theorem clone69 : PrimOK Tryz.prog 69 (clone 1 8) := by
  refine clone_ok 69 1 8 rfl ⟨_, _, Tryz.func69, by kernel_rfl, rfl⟩ (fun S => ?_) (fun a c S => ?_) (fun id m cs S hl hr => ?_)
  · exact go_plain ks_k0 h0 0 rfl fn69 rfl (by kernel_rfl)
  · exact go_plain ks_k0 h0 0 rfl fn69 rfl (by kernel_rfl)
  · refine go_plain ks_k0 h0 0 rfl fn69 rfl ?_
    obtain ⟨z, hz, hzl⟩ := zero69x
    have e : cBody (k0.at 69) h0 (run k0) 0 (compF Tryz.f69) [.sl id (m + 1) cs] S = (appendE (k0.at 69) 22 .emp (.sl id (m + 1) cs) S).bind fun p => some (p.1, p.2) := by kernel_rfl
    have := append_emp (S := S) (id := id) elem69x size69x bytes69x hz (by decide) (by decide) hzl rfl (show m + 1 ≠ 0 by omega) hl hr
    rw [List.append_nil, List.nil_append, e, this]; rfl
theorem elem70x : elem? (k0.at 70) 29 = some 108 := by kernel_rfl
theorem size70x : size? (k0.at 70) 108 = some 2 := by kernel_rfl
theorem bytes70x : bytes? (k0.at 70) 108 = some 16 := by kernel_rfl
theorem zero70x : ∃ z, zero? (k0.at 70) 108 = some z ∧ z.length = 2 := zlen (by kernel_rfl)
theorem fn70 : k0.fns 70 = some (compF Tryz.f70) := by kernel_rfl
theorem clone70 : PrimOK Tryz.prog 70 (clone 2 16) := by
  refine clone_ok 70 2 16 rfl ⟨_, _, Tryz.func70, by kernel_rfl, rfl⟩ (fun S => ?_) (fun a c S => ?_) (fun id m cs S hl hr => ?_)
  · exact go_plain ks_k0 h0 0 rfl fn70 rfl (by kernel_rfl)
  · exact go_plain ks_k0 h0 0 rfl fn70 rfl (by kernel_rfl)
  · refine go_plain ks_k0 h0 0 rfl fn70 rfl ?_
    obtain ⟨z, hz, hzl⟩ := zero70x
    have e : cBody (k0.at 70) h0 (run k0) 0 (compF Tryz.f70) [.sl id (m + 1) cs] S = (appendE (k0.at 70) 29 .emp (.sl id (m + 1) cs) S).bind fun p => some (p.1, p.2) := by kernel_rfl
    have := append_emp (S := S) (id := id) elem70x size70x bytes70x hz (by decide) (by decide) hzl rfl (show m + 1 ≠ 0 by omega) hl hr
    rw [List.append_nil, List.nil_append, e, this]; rfl
end Go.Proofs.YtkflapebfmcmaaaGreat
