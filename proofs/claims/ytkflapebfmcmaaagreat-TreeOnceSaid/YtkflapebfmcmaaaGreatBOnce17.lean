/- Parts of the proofs of this seat's laws. -/
import Derived.Shelf.SlIterI.Nil
import Derived.Shelf.SlIterI.Sorted
import Derived.Shelf.SortM.Plain
import Derived.Shelf.SortM.SortNone
import Derived.Shelf.SlGeneric
import Derived.Ground.GgzProg
import Derived.Ground.SlgmProg
import Derived.Deep.RegionLaw
import Derived.Shelf.RegionOpenPlain
import Derived.WalkKit
import Derived.Deep.LoopGhost
import Derived.Lib.Walk
import Derived.Lib.SliceRun
import Derived.Lib.ReflectliteSwap
import Derived.Test.YtkflapebfmcmaaaGreatBOnce13
import Derived.Test.YtkflapebfmcmaaaGreatBOnce16
section
namespace Go.Proofs.YtkflapebfmcmaaaGreat
open Go Go.Sv Go.RowKit
set_option linter.all false
set_option maxRecDepth 100000

def h0 : H := { cd := fun _ => none, res := fun _ => [], live := fun _ => [], keep := fun _ => none }

theorem append_emp {k : K} {t e : TypeId} {sz by_ : Nat} {z : List SV} (he : elem? k t = some e) (hs : size? k e = some sz) (hb : bytes? k e = some by_) (hz : zero? k e = some z) (h0 : sz ≠ 0) (h1 : by_ ≠ 0) (h2 : z.length = sz) (hbx : k.inBox e = 0)
    {id : Option Nat} {n : Nat} {cs : List SV} {S : St} (hn : n ≠ 0) (hl : cs.length = n * sz) (hr : n * by_ ≤ room) : appendE k t .emp (.sl id n cs) S = some (.sl (some S.next) n cs, S.alloc (.own sz cs.length)) := by
  simp [appendE, he, hs, hb, hz, srcCells, hl, h0, h1, h2, hn, hr, hbx]

theorem clone_ok (f sz by_ : Nat) (hp0 : k0.prim f = none) (hent : ∃ fn body, k0.P.funcs[f]? = some fn ∧ (fn.name == "runtime.NumGoroutine") = false ∧ fn.body = some body)
    (hnil : ∀ S, run k0 (.func f [] []) [.v (.slice none 0 0)] S = some (.v (.slice none 0 0), S))
    (hemp : ∀ a c S, run k0 (.func f [] []) [.v (.slice (some a) 0 c)] S = some (.emp, S))
    (hsome : ∀ id m cs S, cs.length = (m + 1) * sz → (m + 1) * by_ ≤ room → run k0 (.func f [] []) [.sl id (m + 1) cs] S = some (.sl (some S.next) (m + 1) cs, S.alloc (.own sz cs.length))) : PrimOK k0.P f (clone sz by_) := by
  refine prim_of_run ks_k0 kp_k0 hent hp0 ?_
  intro g w us args x S S' hp ha
  have zero : ∀ {u : Value} {y : SV}, R g w u y → (∃ a c, u = .slice (some a) 0 c) ∨ u = .slice none 0 0 → us = [u] → x = .emp → S' = S → ∃ args2 x2, Rs g w us args2 ∧ run k0 (.func f [] []) args2 S = some (x2, S') ∧ ∀ g' w' v, R g' w' v x2 → R g' w' v x := by
    rintro u y hu h rfl rfl rfl
    rcases h with ⟨a, c, rfl⟩ | rfl
    · exact ⟨[.v (.slice (some a) 0 c)], .emp, ⟨rfl, fun i c hi => by cases i with | zero => simp at hi; subst hi; exact .v _ | succ i => simp at hi⟩, hemp _ _ _, fun _ _ _ h => h⟩
    · refine ⟨[.v (.slice none 0 0)], .v (.slice none 0 0), ⟨rfl, fun i c hi => by cases i with | zero => simp at hi; subst hi; exact .v _ | succ i => simp at hi⟩, hnil _, fun _ _ _ h => ?_⟩
      cases h; exact .nil0
  have one : ∀ {y : SV}, args = [y] → ∃ u, us = [u] ∧ R g w u y := by
    rintro y rfl
    obtain ⟨hl, h⟩ := ha
    match us, hl with
    | [u], _ => exact ⟨u, rfl, by simpa using h 0 y rfl⟩
  unfold clone at hp
  split at hp
  · rename_i id n cs
    obtain ⟨u, rfl, hu⟩ := one rfl
    split at hp
    · rename_i hn
      simp only [Option.some.injEq, Prod.mk.injEq] at hp
      obtain ⟨rfl, rfl⟩ := hp
      refine zero hu ?_ rfl rfl rfl
      subst hn
      cases hu with
      | sl B o n c cs f h1 h2 h3 => exact .inl ⟨_, _, rfl⟩
      | own b n cs f h0 h1 h2 h3 => exact .inl ⟨_, _, rfl⟩
      | nil => exact .inr rfl
      | slz a c => exact .inl ⟨_, _, rfl⟩
    · rename_i hn
      split at hp
      · rename_i hc
        simp only [Option.some.injEq, Prod.mk.injEq] at hp
        obtain ⟨rfl, rfl⟩ := hp
        obtain ⟨m, rfl⟩ : ∃ m, n = m + 1 := ⟨n - 1, by omega⟩
        exact ⟨_, _, ha, hsome id m cs S hc.1 hc.2, fun _ _ _ h => h⟩
      · cases hp
  · obtain ⟨u, rfl, hu⟩ := one rfl
    simp only [Option.some.injEq, Prod.mk.injEq] at hp
    obtain ⟨rfl, rfl⟩ := hp
    refine zero hu ?_ rfl rfl rfl
    cases hu with
    | emp B o => exact .inl ⟨_, _, rfl⟩
    | nil0 => exact .inr rfl
  · obtain ⟨u, rfl, hu⟩ := one rfl
    simp only [Option.some.injEq, Prod.mk.injEq] at hp
    obtain ⟨rfl, rfl⟩ := hp
    refine zero hu ?_ rfl rfl rfl
    cases hu; exact .inr rfl
  · cases hp

theorem elem53 : elem? (k0.at 57) 53 = some 28 := by kernel_rfl
theorem size28 : size? (k0.at 57) 28 = some 6 := by kernel_rfl
theorem bytes28 : bytes? (k0.at 57) 28 = some 32 := by kernel_rfl
theorem zlen {x : Option (List SV)} {n : Nat} (h : x.map List.length = some n) : ∃ z, x = some z ∧ z.length = n := by
  cases x with
  | none => cases h
  | some z => exact ⟨z, rfl, by simpa using h⟩
theorem zero28 : ∃ z, zero? (k0.at 57) 28 = some z ∧ z.length = 6 := zlen (by kernel_rfl)
theorem fn57 : k0.fns 57 = some (compF Tryz.f57) := by kernel_rfl
theorem clone57 : PrimOK Tryz.prog 57 (clone 6 32) := by
  refine clone_ok 57 6 32 rfl ⟨_, _, Tryz.func57, by kernel_rfl, rfl⟩ (fun S => ?_) (fun a c S => ?_) (fun id m cs S hl hr => ?_)
  · exact go_plain ks_k0 h0 0 rfl fn57 rfl (by kernel_rfl)
  · exact go_plain ks_k0 h0 0 rfl fn57 rfl (by kernel_rfl)
  · refine go_plain ks_k0 h0 0 rfl fn57 rfl ?_
    obtain ⟨z, hz, hzl⟩ := zero28
    have e : cBody (k0.at 57) h0 (run k0) 0 (compF Tryz.f57) [.sl id (m + 1) cs] S = (appendE (k0.at 57) 53 .emp (.sl id (m + 1) cs) S).bind fun p => some (p.1, p.2) := by kernel_rfl
    have := append_emp (S := S) (id := id) elem53 size28 bytes28 hz (by decide) (by decide) hzl rfl (show m + 1 ≠ 0 by omega) hl hr
    rw [List.append_nil, List.nil_append, e, this]; rfl
theorem elem69x : elem? (k0.at 69) 22 = some 3 := by kernel_rfl
theorem size69x : size? (k0.at 69) 3 = some 1 := by kernel_rfl
theorem bytes69x : bytes? (k0.at 69) 3 = some 8 := by kernel_rfl
theorem zero69x : ∃ z, zero? (k0.at 69) 3 = some z ∧ z.length = 1 := zlen (by kernel_rfl)
theorem fn69 : k0.fns 69 = some (compF Tryz.f69) := by kernel_rfl
theorem clone69 : PrimOK Tryz.prog 69 (clone 1 8) := by
  refine clone_ok 69 1 8 rfl ⟨_, _, Tryz.func69, by kernel_rfl, rfl⟩ (fun S => ?_) (fun a c S => ?_) (fun id m cs S hl hr => ?_)
  · exact go_plain ks_k0 h0 0 rfl fn69 rfl (by kernel_rfl)
  · exact go_plain ks_k0 h0 0 rfl fn69 rfl (by kernel_rfl)
  · refine go_plain ks_k0 h0 0 rfl fn69 rfl ?_
    obtain ⟨z, hz, hzl⟩ := zero69x
    have e : cBody (k0.at 69) h0 (run k0) 0 (compF Tryz.f69) [.sl id (m + 1) cs] S = (appendE (k0.at 69) 22 .emp (.sl id (m + 1) cs) S).bind fun p => some (p.1, p.2) := by kernel_rfl
    have := append_emp (S := S) (id := id) elem69x size69x bytes69x hz (by decide) (by decide) hzl rfl (show m + 1 ≠ 0 by omega) hl hr
    rw [List.append_nil, List.nil_append, e, this]; rfl
theorem elem70x : elem? (k0.at 70) 29 = some 108 := by kernel_rfl
theorem size70x : size? (k0.at 70) 108 = some 2 := by kernel_rfl
theorem bytes70x : bytes? (k0.at 70) 108 = some 16 := by kernel_rfl
theorem zero70x : ∃ z, zero? (k0.at 70) 108 = some z ∧ z.length = 2 := zlen (by kernel_rfl)
theorem fn70 : k0.fns 70 = some (compF Tryz.f70) := by kernel_rfl
theorem clone70 : PrimOK Tryz.prog 70 (clone 2 16) := by
  refine clone_ok 70 2 16 rfl ⟨_, _, Tryz.func70, by kernel_rfl, rfl⟩ (fun S => ?_) (fun a c S => ?_) (fun id m cs S hl hr => ?_)
  · exact go_plain ks_k0 h0 0 rfl fn70 rfl (by kernel_rfl)
  · exact go_plain ks_k0 h0 0 rfl fn70 rfl (by kernel_rfl)
  · refine go_plain ks_k0 h0 0 rfl fn70 rfl ?_
    obtain ⟨z, hz, hzl⟩ := zero70x
    have e : cBody (k0.at 70) h0 (run k0) 0 (compF Tryz.f70) [.sl id (m + 1) cs] S = (appendE (k0.at 70) 29 .emp (.sl id (m + 1) cs) S).bind fun p => some (p.1, p.2) := by kernel_rfl
    have := append_emp (S := S) (id := id) elem70x size70x bytes70x hz (by decide) (by decide) hzl rfl (show m + 1 ≠ 0 by omega) hl hr
    rw [List.append_nil, List.nil_append, e, this]; rfl
end Go.Proofs.YtkflapebfmcmaaaGreat
end
section
namespace Go.Proofs
open Go.RowKit Go.Maps Go.Sort Go.Shelf
def Tryz.keysA_ren : Go.Shelf.Ren := ⟨fun | 7 => 171 | 10 => 206 | n => n, fun | 23 => 140 | 26 => 3 | 3 => 4 | 28 => 197 | 0 => 0 | 27 => 196 | 33 => 156 | 4 => 4 | n => n, fun | n => n⟩
theorem Tryz.keysA : Go.Proofs.SlLaysZI.n7 Tryz.prog Tryz.keysA_ren := {
  mixed := by kernel_rfl
  f7 := ⟨Tryz.f171.name, by kernel_rfl, Tryz.func171.trans (congrArg some (by kernel_rfl))⟩
  f10 := ⟨Tryz.f206.name, by kernel_rfl, Tryz.func206.trans (congrArg some (by kernel_rfl))⟩
  t0 := Tryz.underlying0
  a0 := Tryz.isAgg0
  z0 := Tryz.sizeOf0
  v0 := Tryz.zeroValue0
  t4 := Tryz.underlying4
  a4 := Tryz.isAgg4
  z4 := Tryz.sizeOf4
  v4 := Tryz.zeroValue4
  t23 := Tryz.underlying140
  a23 := Tryz.isAgg140
  z23 := Tryz.sizeOf140
  v23 := Tryz.zeroValue140
  t26 := Tryz.underlying3
  a26 := Tryz.isAgg3
  z26 := Tryz.sizeOf3
  v26 := Tryz.zeroValue3
  t27 := Tryz.underlying196
  a27 := Tryz.isAgg196
  z27 := Tryz.sizeOf196
  v27 := Tryz.zeroValue196
  t28 := Tryz.underlying197
  a28 := Tryz.isAgg197
  z28 := Tryz.sizeOf197
  v28 := Tryz.zeroValue197
  t33 := Tryz.underlying156
  a33 := Tryz.isAgg156
  z33 := Tryz.sizeOf156
  v33 := Tryz.zeroValue156 }
def Tryz.sortedA_ren : Go.Shelf.Ren := ⟨fun | 6 => 170 | 8 => 204 | 9 => 205 | 11 => 212 | 13 => 143 | 12 => 213 | 23 => 190 | 24 => 191 | 14 => 215 | 15 => 216 | 16 => 217 | 17 => 218 | 18 => 219 | 19 => 220 | 20 => 221 | 21 => 222 | 22 => 223 | 25 => 224 | 26 => 208 | 27 => 209 | 28 => 225 | 29 => 226 | 30 => 227 | 31 => 228 | n => n, fun | 26 => 3 | 28 => 197 | 24 => 22 | 0 => 0 | 3 => 3 | 37 => 182 | 48 => 24 | 50 => 199 | 4 => 4 | 40 => 206 | 39 => 205 | 45 => 210 | 5 => 5 | 9 => 9 | 51 => 225 | 55 => 229 | 57 => 233 | 58 => 85 | 33 => 156 | n => n, fun | n => n⟩
theorem Tryz.sortedA : Go.Proofs.SlLaysZI.n6 Tryz.prog Tryz.sortedA_ren := {
  mixed := by kernel_rfl
  f6 := ⟨Tryz.f170.name, by kernel_rfl, Tryz.func170.trans (congrArg some (by kernel_rfl))⟩
  f8 := ⟨Tryz.f204.name, by kernel_rfl, Tryz.func204.trans (congrArg some (by kernel_rfl))⟩
  f11 := ⟨Tryz.f212.name, by kernel_rfl, Tryz.func212.trans (congrArg some (by kernel_rfl))⟩
  t0 := Tryz.underlying0
  a0 := Tryz.isAgg0
  z0 := Tryz.sizeOf0
  v0 := Tryz.zeroValue0
  t24 := Tryz.underlying22
  a24 := Tryz.isAgg22
  z24 := Tryz.sizeOf22
  v24 := Tryz.zeroValue22
  t26 := Tryz.underlying3
  a26 := Tryz.isAgg3
  z26 := Tryz.sizeOf3
  v26 := Tryz.zeroValue3
  t28 := Tryz.underlying197
  a28 := Tryz.isAgg197
  z28 := Tryz.sizeOf197
  v28 := Tryz.zeroValue197
  i26 := by kernel_rfl }
def Tryz.sortA_ren : Go.Shelf.Ren := ⟨fun | 5 => 205 | 8 => 143 | 7 => 213 | 19 => 190 | 20 => 191 | 10 => 215 | 11 => 216 | 12 => 217 | 13 => 218 | 14 => 219 | 15 => 220 | 16 => 221 | 17 => 222 | 18 => 223 | 30 => 224 | 31 => 208 | 32 => 209 | 33 => 225 | 34 => 226 | 35 => 227 | 40 => 228 | n => n, fun | 23 => 22 | 25 => 3 | 3 => 3 | 32 => 182 | 22 => 22 | 0 => 0 | 44 => 24 | 46 => 199 | 4 => 4 | 36 => 206 | 35 => 205 | 41 => 210 | 5 => 5 | 9 => 9 | 53 => 225 | 57 => 229 | 63 => 233 | 64 => 85 | n => n, fun | n => n⟩
theorem Tryz.sortA : Go.Proofs.SlLaysM.n5 Tryz.prog Tryz.sortA_ren := {
  mixed := by kernel_rfl
  f5 := ⟨Tryz.f205.name, by kernel_rfl, Tryz.func205.trans (congrArg some (by kernel_rfl))⟩
  f7 := ⟨Tryz.f213.name, by kernel_rfl, Tryz.func213.trans (congrArg some (by kernel_rfl))⟩
  f8 := Tryz.func143.trans (congrArg some (by kernel_rfl))
  f10 := ⟨Tryz.f215.name, by kernel_rfl, Tryz.func215.trans (congrArg some (by kernel_rfl))⟩
  f11 := ⟨Tryz.f216.name, by kernel_rfl, Tryz.func216.trans (congrArg some (by kernel_rfl))⟩
  f12 := ⟨Tryz.f217.name, by kernel_rfl, Tryz.func217.trans (congrArg some (by kernel_rfl))⟩
  f13 := ⟨Tryz.f218.name, by kernel_rfl, Tryz.func218.trans (congrArg some (by kernel_rfl))⟩
  f14 := ⟨Tryz.f219.name, by kernel_rfl, Tryz.func219.trans (congrArg some (by kernel_rfl))⟩
  f15 := ⟨Tryz.f220.name, by kernel_rfl, Tryz.func220.trans (congrArg some (by kernel_rfl))⟩
  f16 := ⟨Tryz.f221.name, by kernel_rfl, Tryz.func221.trans (congrArg some (by kernel_rfl))⟩
  f17 := ⟨Tryz.f222.name, by kernel_rfl, Tryz.func222.trans (congrArg some (by kernel_rfl))⟩
  f18 := ⟨Tryz.f223.name, by kernel_rfl, Tryz.func223.trans (congrArg some (by kernel_rfl))⟩
  f19 := Tryz.func190.trans (congrArg some (by kernel_rfl))
  f20 := Tryz.func191.trans (congrArg some (by kernel_rfl))
  f30 := ⟨Tryz.f224.name, by kernel_rfl, Tryz.func224.trans (congrArg some (by kernel_rfl))⟩
  f31 := Tryz.func208.trans (congrArg some (by kernel_rfl))
  f32 := Tryz.func209.trans (congrArg some (by kernel_rfl))
  f33 := ⟨Tryz.f225.name, by kernel_rfl, Tryz.func225.trans (congrArg some (by kernel_rfl))⟩
  f34 := ⟨Tryz.f226.name, by kernel_rfl, Tryz.func226.trans (congrArg some (by kernel_rfl))⟩
  f35 := ⟨Tryz.f227.name, by kernel_rfl, Tryz.func227.trans (congrArg some (by kernel_rfl))⟩
  f40 := ⟨Tryz.f228.name, by kernel_rfl, Tryz.func228.trans (congrArg some (by kernel_rfl))⟩
  t0 := Tryz.underlying0
  a0 := Tryz.isAgg0
  z0 := Tryz.sizeOf0
  v0 := Tryz.zeroValue0
  t3 := Tryz.underlying3
  a3 := Tryz.isAgg3
  z3 := Tryz.sizeOf3
  v3 := Tryz.zeroValue3
  t4 := Tryz.underlying4
  a4 := Tryz.isAgg4
  z4 := Tryz.sizeOf4
  v4 := Tryz.zeroValue4
  t5 := Tryz.underlying5
  a5 := Tryz.isAgg5
  z5 := Tryz.sizeOf5
  v5 := Tryz.zeroValue5
  t9 := Tryz.underlying9
  a9 := Tryz.isAgg9
  z9 := Tryz.sizeOf9
  v9 := Tryz.zeroValue9
  t22 := Tryz.underlying22
  a22 := Tryz.isAgg22
  z22 := Tryz.sizeOf22
  v22 := Tryz.zeroValue22
  t23 := Tryz.underlying22
  a23 := Tryz.isAgg22
  z23 := Tryz.sizeOf22
  v23 := Tryz.zeroValue22
  t25 := Tryz.underlying3
  a25 := Tryz.isAgg3
  z25 := Tryz.sizeOf3
  v25 := Tryz.zeroValue3
  t32 := Tryz.underlying182
  a32 := Tryz.isAgg182
  z32 := Tryz.sizeOf182
  v32 := Tryz.zeroValue182
  t35 := Tryz.underlying205
  a35 := Tryz.isAgg205
  z35 := Tryz.sizeOf205
  v35 := Tryz.zeroValue205
  t36 := Tryz.underlying206
  a36 := Tryz.isAgg206
  z36 := Tryz.sizeOf206
  v36 := Tryz.zeroValue206
  t41 := Tryz.underlying210
  a41 := Tryz.isAgg210
  z41 := Tryz.sizeOf210
  v41 := Tryz.zeroValue210
  t44 := Tryz.underlying24
  a44 := Tryz.isAgg24
  z44 := Tryz.sizeOf24
  v44 := Tryz.zeroValue24
  t46 := Tryz.underlying199
  a46 := Tryz.isAgg199
  z46 := Tryz.sizeOf199
  v46 := Tryz.zeroValue199
  t53 := Tryz.underlying225
  a53 := Tryz.isAgg225
  z53 := Tryz.sizeOf225
  v53 := Tryz.zeroValue225
  t57 := Tryz.underlying229
  a57 := Tryz.isAgg229
  z57 := Tryz.sizeOf229
  v57 := Tryz.zeroValue229
  t63 := Tryz.underlying233
  a63 := Tryz.isAgg233
  z63 := Tryz.sizeOf233
  v63 := Tryz.zeroValue233
  t64 := Tryz.underlying85
  a64 := Tryz.isAgg85
  z64 := Tryz.sizeOf85
  v64 := Tryz.zeroValue85 }
end Go.Proofs
namespace Go.Proofs.YtkflapebfmcmaaaGreat
open Go Go.Sv Go.RowKit Go.Maps Go.Sort Go.Shelf
set_option linter.all false
set_option maxRecDepth 100000

theorem sortsA (m : Nat) : AnyZI.SortsIn Tryz.prog Tryz.sortedA_ren Fence.wide m :=
  ⟨fun blk off cap ss W hH hblk hsz => callsIn_wide.2 (AnyM.slices_Sort_int Tryz.sortA blk off cap ss W hH hblk hsz),
   fun p cap W => callsIn_wide.2 (AnyM.slices_Sort_int_none Tryz.sortA p cap W)⟩

/-- slices.Sorted of a map's keys, the map's box at hand. -/
theorem sorted_calls {H : Type} (Bm b nn : Nat) (D0 : DataW H) (R : Value → Option (DataW H × List MemPlace)) (w : World) (hBm : Bm < w.heap.size) (hm : w.cell? ⟨Bm, 0, none⟩ = some (.map (some b))) (hown : w.ownsMap Tryz.prog 3 R b nn D0) (hmax : Maps.size D0 ≤ maxLen) (hbytes : Maps.size D0 * 8 ≤ 140737488355328) :
    Calls Tryz.prog 170 #[.func (.func 206) #[] #[.pointer (some ⟨Bm, 0, none⟩)]] w fun e w' => ∃ (v : Value) (ss : List Int), e = .returned v ∧ ss.Perm (intKeys D0) ∧
      w'.ownsRow w.heap.size 3 1 v ss.length ((ss.mergeSort (fun x y => decide (x ≤ y))).map encZ) ∧ (v = .slice none 0 0 ↔ ss = []) ∧ Below w.heap.size w w' := by
  refine (callsIn_wide (n := 6)).1 ?_
  have hseq : SeqGives Fence.wide 3 Tryz.prog 206 #[.pointer (some ⟨Bm, 0, none⟩)] encZ (fun ss => ss.Perm (intKeys D0)) (Maps.size D0) w :=
    AnyZI.keys_gives (ρ := Tryz.keysA_ren) { Tryz.keysA with } Fence.wide _ trivial rfl (by omega) Bm b nn D0 w hBm hm hown
  exact AnyZI.sorted_in Tryz.sortedA Fence.wide 6 trivial trivial trivial trivial rfl (by omega) (sortsA _) (enters_of Tryz.func205 (by kernel_rfl) rfl) 206 #[.pointer (some ⟨Bm, 0, none⟩)] trivial (enters_of Tryz.func206 (by kernel_rfl) rfl) _ _ hmax hbytes _ hseq

theorem G.grown {w0 w w' : World} {g : Gh} {S : St} (hG : G w0 g S w) (hb : Below w.heap.size w w') : G w0 g S w' ∧ Tr S g w S g w' := by
  have hext : Ext g w g w' := ⟨rfl, Nat.le_refl _, fun _ _ => rfl, fun _ _ => rfl, fun _ => Nat.le_refl _, fun X i hX => cell_block (hb.block X (hG.use_lt hX))⟩
  have hold : ∀ b, b < g.n → (S.get b).live → w'.heap[g.box b]? = w.heap[g.box b]? := fun b hb' hl => hb.block _ (live_size (hG.obj b hb') hl)
  exact ⟨⟨hG.n, hG.floor, fun b hb' => (hG.obj b hb').ext hext hb' (fun hl => ⟨hold b hb' hl, rfl⟩), hG.lo, hG.ne, fun X hX => hG.fresh X (Nat.le_trans hb.size hX), Nat.le_trans hG.base hb.size, hG.below.trans (hb.mono hG.base)⟩, ⟨hext, rfl, Nat.le_refl _, fun _ _ => rfl, fun b hb' hl => ⟨hold b (by have := hG.n; have := hG.floor; omega) hl, rfl⟩, fun _ _ => rfl⟩⟩

theorem insI_perm (x : Int) : ∀ l : List Int, (insI x l).Perm (x :: l)
  | [] => .refl _
  | y :: r => by
    rw [insI]
    split
    · exact .refl _
    · exact ((insI_perm x r).cons y).trans (.swap x y r)
theorem sortI_perm : ∀ l : List Int, (sortI l).Perm l
  | [] => .refl _
  | x :: r => (insI_perm x _).trans ((sortI_perm r).cons x)
theorem insI_sorted (x : Int) : ∀ l : List Int, l.Pairwise (fun a b => a ≤ b) → (insI x l).Pairwise (fun a b => a ≤ b)
  | [], _ => by simp [insI]
  | y :: r, h => by
    rw [List.pairwise_cons] at h
    rw [insI]
    split
    · rename_i hyx
      rw [List.pairwise_cons]
      refine ⟨fun a ha => ?_, List.pairwise_cons.2 h⟩
      rcases List.mem_cons.1 ha with rfl | ha
      · exact hyx
      · have := h.1 a ha; omega
    · rename_i hyx
      rw [List.pairwise_cons]
      refine ⟨fun a ha => ?_, insI_sorted x r h.2⟩
      rcases List.mem_cons.1 ((insI_perm x r).mem_iff.1 ha) with rfl | ha
      · omega
      · exact h.1 a ha
theorem sortI_sorted : ∀ l : List Int, (sortI l).Pairwise (fun a b => a ≤ b)
  | [] => .nil
  | x :: r => insI_sorted x _ (sortI_sorted r)
theorem merge_sortI {ss l : List Int} (h : ss.Perm l) : ss.mergeSort (fun x y => decide (x ≤ y)) = sortI l := by
  refine List.Perm.eq_of_pairwise (le := fun a b : Int => a ≤ b) (fun a b _ _ h1 h2 => by omega) ?_ (sortI_sorted l) (((List.mergeSort_perm ss _).trans h).trans (sortI_perm l).symm)
  have := List.pairwise_mergeSort (le := fun x y : Int => decide (x ≤ y)) (fun a b c h1 h2 => by simp at *; omega) (fun a b => by simp; omega) ss
  exact this.imp fun {a b} h => by simpa using h

theorem keysI_get : ∀ {es : List (SV × SV)} {l : List Int}, keysI es = some l → l.length = es.length ∧ ∀ (i : Nat) (p : SV × SV), es[i]? = some p → ∃ x, p.1 = .v (.int .i64 x) ∧ l[i]? = some x ∧ 0 ≤ x ∧ x ≤ 1000000
  | [], l, h => by simp [keysI] at h; subst h; exact ⟨rfl, fun i p hi => by simp at hi⟩
  | (.v (.int .i64 x), e) :: r, l, h => by
    simp only [keysI] at h
    split at h
    · rename_i hx
      simp only [Option.map_eq_some_iff] at h
      obtain ⟨l', h1, rfl⟩ := h
      obtain ⟨h2, h3⟩ := keysI_get h1
      refine ⟨by simp [h2], fun i p hi => ?_⟩
      cases i with
      | zero => simp at hi; subst hi; exact ⟨x, rfl, by simp, hx⟩
      | succ i => simp at hi; obtain ⟨y, h4, h5, h6⟩ := h3 i p hi; exact ⟨y, h4, by simpa using h5, h6⟩
    · cases h

theorem sorted_ok : PrimOK Tryz.prog 170 sorted := by
  refine prim_of_calls ⟨_, _, Tryz.func170, by kernel_rfl, rfl⟩ ?_
  intro w0 g S w us args x S' hp hG ha
  unfold sorted at hp
  split at hp
  case h_2 => cases hp
  rename_i c
  split at hp
  case h_2 => cases hp
  rename_i b hgc
  split at hp
  case h_2 => cases hp
  rename_i es hgb
  split at hp
  case isFalse => cases hp
  rename_i hlen
  simp only [Option.map_eq_some_iff] at hp
  obtain ⟨l, hl, hp⟩ := hp
  obtain ⟨k1, k2⟩ := keysI_get hl
  -- the argument
  obtain ⟨hal, har⟩ := ha
  obtain ⟨usl⟩ := us
  match usl, hal with
  | [u], _ =>
  have hu : R g w u (.func 206 [] [.ptr c 0]) := by simpa using har 0 _ rfl
  cases hu with
  | func f fst cap fst' cap' h1 h2 h3 h4 =>
  have e1 : fst' = #[] := Array.eq_empty_of_size_eq_zero (by simpa using h1)
  subst e1
  obtain ⟨capl⟩ := cap'
  match capl, h3 with
  | [cv], _ =>
  have hcv : R g w cv (.ptr c 0) := by simpa using h4 0 _ rfl
  cases hcv with
  | ptr _ _ hc =>
  have hOc := hG.obj c hc
  rw [hgc] at hOc
  obtain ⟨a, T, q1, q2, q3, q4⟩ := hOc
  have hmv := (q3 0 (.map b) rfl).1
  generalize hmvv : a.getD 0 undef = mv at hmv
  cases hmv with
  | map _ hb =>
  have hcell : w.cell? ⟨g.box c, 0, none⟩ = some (.map (some (g.box b))) := by
    have h0 : 0 < a.size := by rw [q2]; simp
    simp only [World.cell?, q1, Option.isSome_none, Bool.false_eq_true, if_false]
    rw [Array.getElem?_eq_getElem h0]
    simpa [Array.getD, h0] using hmvv
  have hOb := hG.obj b hb
  rw [hgb] at hOb
  obtain ⟨r0, m, ck, r1, rst, r2, r3⟩ := hOb
  -- the map
  let RR : Value → Option (DataW Unit × List MemPlace) := fun _ => some (.nil, [])
  have key : ∀ i, i < m.size → ∃ y, (m.getD i default).key = .int .i64 y ∧ l[i]? = some y ∧ 0 ≤ y ∧ y ≤ 1000000 := by
    intro i hi
    have hie : i < es.length := by omega
    obtain ⟨⟨y, p1, p2⟩, _⟩ := r3 i es[i] (List.getElem?_eq_getElem hie)
    obtain ⟨z, z1, z2, z3⟩ := k2 i es[i] (List.getElem?_eq_getElem hie)
    rw [p1] at z1
    injection z1 with z1
    injection z1 with _ z1
    subst z1
    exact ⟨y, p2, z2, z3⟩
  have hrd : ∀ z ∈ m.toList, ∃ y : Int, WideElems.rd Tryz.prog 3 RR z = some (.int .i64 y, .nil) ∧ z.key = .int .i64 y := by
    intro z hz
    obtain ⟨i, hi, rfl⟩ := List.getElem_of_mem hz
    have him : i < m.size := by simpa using hi
    obtain ⟨y, y1, y2, y3, y4⟩ := key i him
    have y1' : (m[i]).key = .int .i64 y := by simpa [Array.getD, him] using y1
    refine ⟨y, ?_, by simpa using y1'⟩
    simp only [WideElems.rd, Array.getElem_toList, y1', RR]
    rw [keyOf_int_mk Tryz.underlying3 (by simp [Lit.wf, IntKind.min, IntKind.max, IntKind.signed, IntKind.bits]; omega)]
    rfl
  have hown : w.ownsMap Tryz.prog 3 RR (g.box b) m.size (.map ((m.toList.map (WideElems.rg Tryz.prog 3 RR)).foldr DataW.insert [])) :=
    ⟨m, ck, r1, ⟨by rw [r2]; simp only [maxLen]; omega, rst, fun z hz => by obtain ⟨y, hy, _⟩ := hrd z hz; exact ⟨_, hy⟩⟩, Nat.le_refl _, rfl⟩
  have hsize : Maps.size (.map ((m.toList.map (WideElems.rg Tryz.prog 3 RR)).foldr DataW.insert [])) = m.size := by
    show ((m.toList.map (WideElems.rg Tryz.prog 3 RR)).foldr DataW.insert []).length = m.size
    rw [(WideShapes.sorted_perm _).length_eq]; simp
  have hkeys : (intKeys (.map ((m.toList.map (WideElems.rg Tryz.prog 3 RR)).foldr DataW.insert []))).Perm l := by
    show (((m.toList.map (WideElems.rg Tryz.prog 3 RR)).foldr DataW.insert []).map fun p => Go.intOf p.1).Perm l
    refine ((WideShapes.sorted_perm _).map _).trans ?_
    rw [List.map_map]
    have : m.toList.map ((fun p : Lit × DataW Unit => Go.intOf p.1) ∘ WideElems.rg Tryz.prog 3 RR) = l := by
      apply List.ext_getElem?
      intro i
      rw [List.getElem?_map]
      by_cases hi : i < m.size
      · have hmem : m.toList[i]? = some m[i] := by simp [hi]
        rw [hmem, Option.map_some]
        obtain ⟨y, hy, hyk⟩ := hrd m[i] (by simp)
        obtain ⟨y', y1, y2, _⟩ := key i hi
        have y1' : (m[i]).key = .int .i64 y' := by simpa [Array.getD, hi] using y1
        rw [y1'] at hyk
        injection hyk with _ hyk
        subst hyk
        rw [y2]
        simp [WideElems.rg, hy, Go.intOf]
      · have h1 : m.toList[i]? = none := by simp; omega
        rw [h1, Option.map_none, List.getElem?_eq_none (by omega)]
    rw [this]
  have hcalls := sorted_calls (g.box c) (g.box b) m.size _ RR w (Array.getElem?_eq_some_iff.1 q1).1 hcell hown (by rw [hsize, r2]; simp only [maxLen]; omega) (by rw [hsize, r2]; omega)
  refine hcalls.mono fun e w' ⟨v, ss, he, hss, hrow, hnil, hbel⟩ => ⟨v, he, ?_⟩
  have hperm := hss.trans hkeys
  rw [merge_sortI hperm, hperm.length_eq] at hrow
  split at hp
  · rename_i hl0
    simp only [Prod.mk.injEq] at hp
    obtain ⟨rfl, rfl⟩ := hp
    have : ss = [] := List.eq_nil_of_length_eq_zero (by rw [hperm.length_eq, hl0])
    rw [hnil.2 this]
    obtain ⟨G1, T1⟩ := G.grown hG hbel
    exact ⟨g, .v _, G1, T1⟩
  · rename_i hl0
    simp only [Prod.mk.injEq] at hp
    obtain ⟨rfl, rfl⟩ := hp
    obtain ⟨hxl, hrow⟩ := hrow
    rcases hrow with ⟨_, h0⟩ | ⟨B, cap, cur, rfl, hbase, hB, c1, c2, c3, c4⟩
    · exact (hl0 h0).elim
    have hlen' : (sortI l).length = l.length := (sortI_perm l).length_eq
    have hcur : ∀ i, i < l.length → cur[i]? = some (encZ ((sortI l).getD i 0)) := by
      intro i hi
      have h1 := congrArg (fun z => z[i]?) c4
      simp only [Nat.mul_one] at h1
      rw [List.getElem?_take_of_lt hi, List.getElem?_map] at h1
      rw [Array.getElem?_toList] at h1
      rw [h1]
      simp [List.getD, show i < (sortI l).length by omega]
    have hO : ObjR (g.add B cap l.length) w' g.n (.own 1 l.length) := by
      refine ⟨cur, 3, by rw [add_box]; exact hB, by rw [add_cap]; exact c3, by rw [c3]; omega, by rw [add_box, add_use]⟩
    obtain ⟨G1, T1⟩ := hG.add (B := B) ⟨hbel.os, hbel.tape, hbel.output, hbel.size, fun k hk _ => hbel.block k hk⟩ (Nat.le_trans hG.base hbase) (Array.getElem?_eq_some_iff.1 hB).1 (fun b' hb' hl' => by
      have := live_size (hG.obj b' hb') hl'
      omega) cap l.length (by rw [hG.fresh B hbase]; exact Nat.zero_le _) (fun o ho => by rw [hG.fresh B hbase] at ho; omega) (.own 1 l.length) hO
    refine ⟨_, ?_, G1, T1⟩
    have hRo := R.own (g := g.add B cap l.length) (w := w') g.n l.length ((sortI l).map fun x => .v (.int .i64 x)) (fun i => encZ ((sortI l).getD i 0)) (Nat.lt_succ_self g.n) (by
      intro i hi
      rw [add_box, add_use]
      have hi : i < l.length := by simpa [hlen'] using hi
      refine ⟨by omega, ?_, rfl⟩
      simp only [World.cell?, Nat.zero_add, hB, Option.isSome_none, Bool.false_eq_true, if_false]
      exact hcur i hi) (fun i c hi => by
      rw [List.getElem?_map, Option.map_eq_some_iff] at hi
      obtain ⟨y, hy, rfl⟩ := hi
      have : (sortI l).getD i 0 = y := by simp [List.getD, hy]
      rw [this]
      exact .v _) (by rw [add_cap]; exact c1)
    rw [add_box, add_cap, hG.n] at hRo
    exact hRo
end Go.Proofs.YtkflapebfmcmaaaGreat
end
section
namespace Go.Proofs.YtkflapebfmcmaaaGreat
open Go Go.Sv Go.RowKit
set_option linter.all false
set_option maxRecDepth 100000

/-- The cells of a waiting of zeroes. -/
def zw : List Value := [.int .i64 0, .int .i64 0, .int .i64 0, .int .u32 0, .int .u32 0, .int .u32 0, .int .u32 0, .int .i64 0, .int .i64 0, .int .i64 0, .int .i64 0, .slice none 0 0]

theorem zw_one : ∀ v ∈ zw, v.oneCell' = true := by decide

theorem clear_wait (w : World) (ty : TypeId) (b o n c : Nat) (hn : n = 1) (hc : ∀ j, j < 12 → (w.cell? ⟨b, o + j, none⟩).isSome = true) (hf : ∀ j, j < 12 → w.frozen? ⟨b, o + j, none⟩ = false) :
    (Builtin.clear_ #[90] ty #[.slice (some ⟨b, o, none⟩) n c]).run Tryz.prog w = .ok (.tuple #[]) (w.setCells b o zw) := by
  subst hn
  have hzc : (Builtin.zeroCells (Value.agg zw.toArray).cells 1).toList = zw := by kernel_rfl
  have hst := run_storeCells_cells (P := Tryz.prog) b o zw 0 w (by simpa [zw] using hc) (by simpa [zw] using hf) zw_one
  simp only [Nat.add_zero] at hst
  have hv : ∀ w, (zeroValue 98).run Tryz.prog w = .ok (.agg zw.toArray) w := Tryz.zeroValue98
  simp [Builtin.clear_, run_underlying Tryz.underlying90, hv, hzc, hst]

set_option maxHeartbeats 4000000 in
set_option maxRecDepth 1000000 in
theorem delete_calls (blk off cap n i j : Nat) (vals : Nat → Value) (w : World) (hH : ∀ k, k < n * 12 → w.cell? ⟨blk, off + k, none⟩ = some (vals k) ∧ w.frozen? ⟨blk, off + k, none⟩ = false) (h1 : ∀ k, k < n * 12 → (vals k).oneCell' = true)
    (hcap : n ≤ cap) (hm : n ≤ 1000000) (hij : i < j) (hjn : j ≤ n) (hj1 : Hid (j = i + 1)) :
    Calls Tryz.prog 125 #[.slice (some ⟨blk, off, none⟩) n cap, .int .i64 i, .int .i64 (j : Int)] w fun e w' => e = .returned (.slice (some ⟨blk, off, none⟩) (n - 1) cap) ∧
      w' = (w.drew.setCells blk (off + i * 12) ((List.range ((n - j) * 12)).map fun t => vals (j * 12 + t))).setCells blk (off + (n - 1) * 12) zw := by
  have hj2 := hj1.out
  have hi : i < n := by omega
  obtain ⟨news, hnews⟩ : ∃ news, news = (List.range ((n - j) * 12)).map fun t => vals (j * 12 + t) := ⟨_, rfl⟩
  rw [← hnews]
  have hlen : news.length = (n - j) * 12 := by rw [hnews]; simp
  have hget : ∀ t, t < (n - j) * 12 → news[t]? = some (vals (j * 12 + t)) := by
    intro t ht
    rw [hnews, List.getElem?_map, List.getElem?_range ht]; rfl
  obtain ⟨A, hA, hsrc⟩ : ∃ A : Addr, (if cap = j then some (⟨blk, off, none⟩ : Addr) else some ⟨blk, off + j * 12, none⟩) = some A ∧ Hid (∀ t u, news[t]? = some u → w.drew.cell? (A.add t) = some u) := by
    by_cases h : cap = j
    · refine ⟨⟨blk, off, none⟩, by simp [h], fun t u hu => ?_⟩
      have h0 : news.length = 0 := by rw [hlen]; omega
      rw [List.length_eq_zero_iff.1 h0] at hu
      simp at hu
    · refine ⟨⟨blk, off + j * 12, none⟩, by simp [h], fun t u hu => ?_⟩
      have ht : t < (n - j) * 12 := by
        have := (List.getElem?_eq_some_iff.1 hu).1
        rwa [hlen] at this
      rw [hget t ht] at hu
      rw [Addr.add_lit, show off + j * 12 + t = off + (j * 12 + t) by omega]
      exact (hH (j * 12 + t) (by omega)).1.trans hu
  have s1 : Hid (news.length = (n - j) * 12) := hlen
  have s2 : Hid (∀ u ∈ news, u.oneCell' = true) := by
    intro u hu
    rw [hnews, List.mem_map] at hu
    obtain ⟨t, ht, rfl⟩ := hu
    have := List.mem_range.1 ht
    exact h1 _ (by omega)
  have s3 : Hid (∀ t, t < news.length → (w.drew.cell? ⟨blk, off + i * 12 + t, none⟩).isSome = true ∧ w.drew.frozen? ⟨blk, off + i * 12 + t, none⟩ = false) := by
    intro t ht
    rw [hlen] at ht
    rw [Nat.add_assoc]
    exact ⟨by show (w.cell? _).isSome = true; rw [(hH (i * 12 + t) (by omega)).1]; rfl, (hH (i * 12 + t) (by omega)).2⟩
  obtain ⟨W1, hW1⟩ : ∃ W1, W1 = w.drew.setCells blk (off + i * 12) news := ⟨_, rfl⟩
  have hcl : ∀ ty, (Builtin.clear_ #[90] ty #[.slice (some ⟨blk, off + (i + (n - j)) * 12, none⟩) (n - (i + (n - j))) (cap - (i + (n - j)))]).run Tryz.prog W1 = .ok (.tuple #[]) (W1.setCells blk (off + (i + (n - j)) * 12) zw) :=
    fun ty => clear_wait W1 ty blk _ _ _ (by omega) (fun t ht => by
      rw [hW1, Nat.add_assoc]
      refine Go.Lib.isSome_setCells blk _ _ _ _ ?_
      show (w.cell? _).isSome = true
      rw [(hH _ (by omega)).1]; rfl) (fun t ht => by
      rw [hW1, Nat.add_assoc, World.frozen?_setCells]
      exact (hH _ (by omega)).2)
  have hW : Hid (W1 = w.drew.setCells blk (off + i * 12) news) := hW1
  have hic : i ≤ cap := by omega
  have hjc : j ≤ cap := by omega
  have hfin : Hid (i + (n - j) = n - 1) := by show _ = _; omega
  rw [← hW1]
  rw [show n - 1 = i + (n - j) by omega]
  clear hj2 hW1 hH hget hnews hlen h1
  have mixed : Tryz.prog.follows .mixedOrders = true := by kernel_rfl
  have hi0 : Tryz.prog.info? 98 = some Tryz.t98 := by kernel_rfl
  have hz1 : Tryz.t98.size = 12 := by kernel_rfl
  have a90 := Tryz.isAgg90
  have z90 := Tryz.sizeOf90
  have v90 := Tryz.zeroValue90
  have t90 := Tryz.underlying90
  have a98 := Tryz.isAgg98
  have z98 := Tryz.sizeOf98
  have a3 := Tryz.isAgg3
  have t3 := Tryz.underlying3
  have z3 := Tryz.sizeOf3
  have v3 := Tryz.zeroValue3
  have a4 := Tryz.isAgg4
  have t4 := Tryz.underlying4
  have z4 := Tryz.sizeOf4
  have v4 := Tryz.zeroValue4
  go_enter Tryz.func125, Tryz.ntmps125
  go_wp2_with fail
  go_region_law_o (refine step_append_room rfl (.tmp 22) (.tmp 25) 90 rfl 98 Tryz.t98 12 t90 hi0 hz1 blk off i cap (by simp [Act.eval, Act.put]) A (n - j) (cap - j) news (by simp [Act.eval, Act.put]) s1.out hsrc.out s2.out (by omega) s3.out ?_; rw [← hW.out])
  go_wp2
  go_ret
  exact ⟨rfl, rfl⟩

def putL : Array Value → Nat → List Value → Array Value
  | a, _, [] => a
  | a, o, v :: r => putL (a.setIfInBounds o v) (o + 1) r
theorem putL_size : ∀ (vs : List Value) (a : Array Value) (o : Nat), (putL a o vs).size = a.size
  | [], _, _ => rfl
  | v :: r, a, o => by rw [putL, putL_size r]; simp
theorem putL_get (j : Nat) : ∀ (vs : List Value) (a : Array Value) (o : Nat), j < a.size → (putL a o vs).getD j undef = if o ≤ j ∧ j < o + vs.length then vs.getD (j - o) undef else a.getD j undef
  | [], a, o, _ => by rw [putL, if_neg (by simp only [List.length_nil]; omega)]
  | v :: r, a, o, h => by
    rw [putL, putL_get j r _ _ (by simpa using h)]
    by_cases h1 : o + 1 ≤ j ∧ j < o + 1 + r.length
    · rw [if_pos h1, if_pos (by simp only [List.length_cons]; omega)]
      obtain ⟨t, rfl⟩ : ∃ t, j = o + 1 + t := ⟨j - (o + 1), by omega⟩
      rw [show o + 1 + t - (o + 1) = t by omega, show o + 1 + t - o = t + 1 by omega]
      simp
    · rw [if_neg h1]
      by_cases h2 : o = j
      · subst h2
        rw [if_pos (by simp only [List.length_cons]; omega)]
        simp [Array.getD, h]
      · rw [if_neg (by simp only [List.length_cons]; omega)]
        simp [Array.getD, h, Array.getElem_setIfInBounds, h2]

theorem sets_at (b : Nat) {T : TypeId} : ∀ (vs : List Value) (o : Nat) (w : World) (a : Array Value), w.heap[b]? = some (.cells a T (0, 0)) → (w.setCells b o vs).heap[b]? = some (.cells (putL a o vs) T (0, 0))
  | [], _, _, _, h => h
  | v :: r, o, w, a, h => sets_at b r (o + 1) _ _ (by show (w.heap.modify b _)[b]? = _; rw [Array.getElem?_modify, if_pos rfl, h]; rfl)
theorem only_trans {w w' w'' : World} {b : Nat} (h : Only w w' b) (k : Only w' w'' b) : Only w w'' b :=
  ⟨k.os.trans h.os, k.tape.trans h.tape, k.output.trans h.output, Nat.le_trans h.size k.size, fun x hx hne => (k.block x (Nat.lt_of_lt_of_le hx h.size) hne).trans (h.block x hx hne)⟩
theorem sets_only (b : Nat) : ∀ (vs : List Value) (o : Nat) (w : World), Only w (w.setCells b o vs) b
  | [], _, w => ⟨rfl, rfl, rfl, Nat.le_refl _, fun _ _ _ => rfl⟩
  | v :: r, o, w => only_trans (w' := w.setCell ⟨b, o, none⟩ v) ⟨rfl, rfl, rfl, by simp [World.setCell], fun k hk hne => by show (w.heap.modify b _)[k]? = _; rw [Array.getElem?_modify, if_neg (fun e => hne (Eq.symm e))]⟩ (sets_only b r (o + 1) _)

theorem delete_ok : PrimOK Tryz.prog 125 (delete 12) := by
  refine prim_of_calls ⟨_, _, Tryz.func125, by kernel_rfl, rfl⟩ ?_
  intro w0 g S w us args x S' hp hG ha
  unfold delete at hp
  split at hp
  case h_2 => cases hp
  rename_i b n i j
  split at hp
  case h_2 => cases hp
  rename_i s cs hget
  split at hp
  case isFalse => cases hp
  rename_i hc
  obtain ⟨rfl, hfl, hi0, rfl, hjn, hn6, hlen⟩ := hc
  simp only [Option.some.injEq, Prod.mk.injEq] at hp
  obtain ⟨rfl, rfl⟩ := hp
  obtain ⟨i, rfl⟩ : ∃ m : Nat, i = m := ⟨i.toNat, by omega⟩
  rw [show ((i : Int) + 1).toNat = i + 1 by omega, Int.toNat_natCast]
  have hjn : i + 1 ≤ n := by omega
  obtain ⟨hal, har⟩ := ha
  obtain ⟨usl⟩ := us
  match usl, hal with
  | [u, v1, v2], _ =>
  have hu : R g w u (.arr b n) := by simpa using har 0 _ rfl
  have e1 : v1 = .int .i64 i := by
    have : R g w v1 (.v (.int .i64 i)) := by simpa using har 1 _ rfl
    cases this; rfl
  have e2 : v2 = .int .i64 ((i + 1 : Nat) : Int) := by
    have : R g w v2 (.v (.int .i64 ((i : Int) + 1))) := by simpa using har 2 _ rfl
    cases this; simp
  subst e1 e2
  cases hu with
  | arr _ _ hb hn =>
  have hOb := hG.obj b hb
  rw [hget] at hOb
  obtain ⟨a, T, h1, h2, h3, h4, h5⟩ := hOb
  have hn12 : n * 12 ≤ a.size := by rw [h2]; omega
  have hcalls := delete_calls (g.box b) 0 (g.cap b) n i (i + 1) (fun k => a.getD k undef) w (fun k hk => by
    have hk' : k < a.size := by omega
    refine ⟨?_, by simp [World.frozen?, h1]⟩
    simp only [World.cell?, h1, Nat.zero_add, Option.isSome_none, Bool.false_eq_true, if_false]
    simp [Array.getD, hk']) (fun k hk => by
    have hk' : k < cs.length := by omega
    exact (h4 k cs[k] (List.getElem?_eq_getElem hk')).2) hn hn6 (Nat.lt_succ_self i) hjn rfl
  refine hcalls.mono fun e w' ⟨he, hw⟩ => ⟨_, he, ?_⟩
  generalize hnews : ((List.range ((n - (i + 1)) * 12)).map fun t => a.getD ((i + 1) * 12 + t) undef) = news at hw
  have hnl : news.length = (n - (i + 1)) * 12 := by rw [← hnews]; simp
  have hng : ∀ t, t < (n - (i + 1)) * 12 → news.getD t undef = a.getD ((i + 1) * 12 + t) undef := by
    intro t ht
    rw [← hnews, List.getD, List.getElem?_map, List.getElem?_range ht]; rfl
  have hat : w'.heap[g.box b]? = some (.cells (putL (putL a (0 + i * 12) news) (0 + (n - 1) * 12) zw) T (0, 0)) := by
    subst hw
    exact sets_at _ _ _ _ _ (sets_at _ _ _ _ _ h1)
  have hO : Sv.Only w w' (g.box b) := by
    subst hw
    exact only_trans (only_trans (w' := w.drew) ⟨rfl, rfl, rfl, Nat.le_refl _, fun _ _ _ => rfl⟩ (sets_only _ _ _ _)) (sets_only _ _ _ _)
  have hext : Ext g w g w' := by
    refine ⟨rfl, Nat.le_refl _, fun _ _ => rfl, fun _ _ => rfl, fun _ => Nat.le_refl _, fun X i hX => ?_⟩
    refine cell_block (hO.block X (hG.use_lt hX) ?_)
    intro e
    subst e
    omega
  have hR : ObjR g w' b (.arr 12 (cs.take (i * 12) ++ cs.drop ((i + 1) * 12))) := by
    refine ⟨_, T, hat, by rw [putL_size, putL_size, h2], by rw [putL_size, putL_size]; simp; omega, fun k c hk => ?_, h5⟩
    have hkl : k < (n - 1) * 12 := by
      have := (List.getElem?_eq_some_iff.1 hk).1
      simp at this
      omega
    have hka : k < a.size := by omega
    rw [putL_get _ _ _ _ (by rw [putL_size]; exact hka), if_neg (by omega), putL_get _ _ _ _ hka]
    by_cases hki : k < i * 12
    · rw [if_neg (by omega)]
      rw [List.getElem?_append_left (by simp; omega), List.getElem?_take_of_lt hki] at hk
      exact ⟨(h4 k c hk).1.ext hext, (h4 k c hk).2⟩
    · rw [if_pos (by rw [hnl]; omega), hng _ (by omega)]
      rw [List.getElem?_append_right (by simp; omega), List.getElem?_drop] at hk
      have hk2 : (i + 1) * 12 + (k - (List.take (i * 12) cs).length) = (i + 1) * 12 + (k - (0 + i * 12)) := by simp; omega
      rw [hk2] at hk
      exact ⟨(h4 _ c hk).1.ext hext, (h4 _ c hk).2⟩
  obtain ⟨G1, T1⟩ := hG.put hb (by rw [hget]; trivial) hfl hO h5 _ hR
  exact ⟨g, .arr b (n - 1) hb (by omega), G1, T1⟩
end Go.Proofs.YtkflapebfmcmaaaGreat
end
