/- Parts of the proofs of this seat's laws: an interpreter of the program's form, its soundness against the model, or what it answers on this program. -/
import Derived.Shelf.SlSortCmp.NoneTotal
import Derived.Shelf.SlGeneric
import Derived.Ground.SlsfProg
import Derived.WalkKit
import Derived.Test.YtkflapebfmcmaaaGreatBBuilds13
import Derived.Test.YtkflapebfmcmaaaGreatBBuilds19
section
namespace Go.Proofs
open Go.Shelf
def Tryz.sortL_ren : Go.Shelf.Ren := ⟨fun | 6 => 92 | 15 => 143 | 14 => 142 | 28 => 190 | 29 => 191 | 20 => 182 | 21 => 183 | 22 => 184 | 23 => 185 | 24 => 186 | 25 => 187 | 26 => 188 | 27 => 189 | 46 => 207 | 47 => 208 | 48 => 209 | 49 => 210 | 50 => 211 | 57 => 214 | n => n, fun | 22 => 22 | 24 => 3 | 25 => 139 | 3 => 3 | 39 => 182 | 0 => 0 | 53 => 24 | 55 => 199 | 4 => 4 | 46 => 206 | 45 => 205 | 50 => 210 | 5 => 5 | 9 => 9 | 66 => 225 | 70 => 229 | 76 => 233 | 77 => 85 | n => n, fun | n => n⟩
theorem Tryz.sortL : Go.Proofs.SlLaysF.n6 Tryz.prog Tryz.sortL_ren := {
  mixed := by kernel_rfl
  f6 := ⟨Tryz.f92.name, by kernel_rfl, Tryz.func92.trans (congrArg some (by kernel_rfl))⟩
  f14 := ⟨Tryz.f142.name, by kernel_rfl, Tryz.func142.trans (congrArg some (by kernel_rfl))⟩
  f15 := Tryz.func143.trans (congrArg some (by kernel_rfl))
  f20 := ⟨Tryz.f182.name, by kernel_rfl, Tryz.func182.trans (congrArg some (by kernel_rfl))⟩
  f21 := ⟨Tryz.f183.name, by kernel_rfl, Tryz.func183.trans (congrArg some (by kernel_rfl))⟩
  f22 := ⟨Tryz.f184.name, by kernel_rfl, Tryz.func184.trans (congrArg some (by kernel_rfl))⟩
  f23 := ⟨Tryz.f185.name, by kernel_rfl, Tryz.func185.trans (congrArg some (by kernel_rfl))⟩
  f24 := ⟨Tryz.f186.name, by kernel_rfl, Tryz.func186.trans (congrArg some (by kernel_rfl))⟩
  f25 := ⟨Tryz.f187.name, by kernel_rfl, Tryz.func187.trans (congrArg some (by kernel_rfl))⟩
  f26 := ⟨Tryz.f188.name, by kernel_rfl, Tryz.func188.trans (congrArg some (by kernel_rfl))⟩
  f27 := ⟨Tryz.f189.name, by kernel_rfl, Tryz.func189.trans (congrArg some (by kernel_rfl))⟩
  f28 := Tryz.func190.trans (congrArg some (by kernel_rfl))
  f29 := Tryz.func191.trans (congrArg some (by kernel_rfl))
  f46 := ⟨Tryz.f207.name, by kernel_rfl, Tryz.func207.trans (congrArg some (by kernel_rfl))⟩
  f47 := Tryz.func208.trans (congrArg some (by kernel_rfl))
  f48 := Tryz.func209.trans (congrArg some (by kernel_rfl))
  f49 := ⟨Tryz.f210.name, by kernel_rfl, Tryz.func210.trans (congrArg some (by kernel_rfl))⟩
  f50 := ⟨Tryz.f211.name, by kernel_rfl, Tryz.func211.trans (congrArg some (by kernel_rfl))⟩
  f57 := ⟨Tryz.f214.name, by kernel_rfl, Tryz.func214.trans (congrArg some (by kernel_rfl))⟩
  t0 := Tryz.underlying0
  a0 := Tryz.isAgg0
  z0 := Tryz.sizeOf0
  v0 := Tryz.zeroValue0
  t3 := Tryz.underlying3
  a3 := Tryz.isAgg3
  z3 := Tryz.sizeOf3
  v3 := Tryz.zeroValue3
  t4 := Tryz.underlying4
  a4 := Tryz.isAgg4
  z4 := Tryz.sizeOf4
  v4 := Tryz.zeroValue4
  t5 := Tryz.underlying5
  a5 := Tryz.isAgg5
  z5 := Tryz.sizeOf5
  v5 := Tryz.zeroValue5
  t9 := Tryz.underlying9
  a9 := Tryz.isAgg9
  z9 := Tryz.sizeOf9
  v9 := Tryz.zeroValue9
  t22 := Tryz.underlying22
  a22 := Tryz.isAgg22
  z22 := Tryz.sizeOf22
  v22 := Tryz.zeroValue22
  a24 := Tryz.isAgg3
  z24 := Tryz.sizeOf3
  t25 := Tryz.underlying139
  a25 := Tryz.isAgg139
  z25 := Tryz.sizeOf139
  v25 := Tryz.zeroValue139
  t39 := Tryz.underlying182
  a39 := Tryz.isAgg182
  z39 := Tryz.sizeOf182
  v39 := Tryz.zeroValue182
  t45 := Tryz.underlying205
  a45 := Tryz.isAgg205
  z45 := Tryz.sizeOf205
  v45 := Tryz.zeroValue205
  t46 := Tryz.underlying206
  a46 := Tryz.isAgg206
  z46 := Tryz.sizeOf206
  v46 := Tryz.zeroValue206
  t50 := Tryz.underlying210
  a50 := Tryz.isAgg210
  z50 := Tryz.sizeOf210
  v50 := Tryz.zeroValue210
  t53 := Tryz.underlying24
  a53 := Tryz.isAgg24
  z53 := Tryz.sizeOf24
  v53 := Tryz.zeroValue24
  t55 := Tryz.underlying199
  a55 := Tryz.isAgg199
  z55 := Tryz.sizeOf199
  v55 := Tryz.zeroValue199
  t66 := Tryz.underlying225
  a66 := Tryz.isAgg225
  z66 := Tryz.sizeOf225
  v66 := Tryz.zeroValue225
  t70 := Tryz.underlying229
  a70 := Tryz.isAgg229
  z70 := Tryz.sizeOf229
  v70 := Tryz.zeroValue229
  t76 := Tryz.underlying233
  a76 := Tryz.isAgg233
  z76 := Tryz.sizeOf233
  v76 := Tryz.zeroValue233
  t77 := Tryz.underlying85
  a77 := Tryz.isAgg85
  z77 := Tryz.sizeOf85
  v77 := Tryz.zeroValue85 }
end Go.Proofs
namespace Go.Proofs.YtkflapebfmcmaaaGreat
open Go Go.Sv Go.RowKit Go.Shelf Go.Sort
set_option linter.all false
set_option maxRecDepth 100000

/-- Numbers of a middling size. -/
def Mid : Type := { x : Int // 0 ≤ x ∧ x ≤ 1000000 }
instance : Inhabited Mid := ⟨⟨0, by decide⟩⟩
def encM (x : Mid) : Value := .int .i64 x.1
def cfM (x y : Mid) : Int := y.1 - x.1

theorem ltM (x y : Mid) : ltOf cfM x y = decide (y.1 < x.1) := by
  unfold ltOf cfM
  by_cases h : y.1 < x.1
  · have h' : y.1 - x.1 < 0 := by omega
    simp [h, h']
  · have h' : ¬ y.1 - x.1 < 0 := by omega
    simp [h, h']
theorem swoM : SWO (ltOf cfM) where
  irrefl x := by rw [ltM]; simp
  trans x y z h1 h2 := by rw [ltM] at *; simp at *; omega
  ntrans x y z h1 h2 := by rw [ltM] at *; simp at *; omega
theorem totM (x y : Mid) (h1 : ltOf cfM x y = false) (h2 : ltOf cfM y x = false) : x = y := by
  rw [ltM] at *
  simp at h1 h2
  exact Subtype.ext (by omega)

set_option maxHeartbeats 1000000 in
/-- The program's own closure. -/
theorem closure93 (x y : Mid) (W : World) : Calls Tryz.prog 93 #[encM x, encM y] W fun e w' => e = .returned (.int .i64 (cfM x y)) ∧ ∃ q, w' = W.drewN q := by
  obtain ⟨x, hx0, hx1⟩ := x
  obtain ⟨y, hy0, hy1⟩ := y
  unfold encM cfM
  simp only
  go_enter Tryz.func93, Tryz.ntmps93
  go_wp2
  go_ret
  refine ⟨?_, 0, rfl⟩
  first | rfl | (congr 2; omega)

theorem cmpM (blk off size : Nat) (w : World) : CmpReads Tryz.prog 93 #[] encM cfM blk off size w := fun _ _ _ _ x y => closure93 x y _

theorem sort_calls (blk off c : Nat) (d : Array Mid) (h12 : d.size < 4611686018427387904) (w : World) (hH : Holds encM w blk off d) (hblk : blk < w.heap.size) :
    Calls Tryz.prog 92 #[.slice (some ⟨blk, off, none⟩) d.size c, .func (.func 93) #[] #[]] w fun e w' =>
      e = .returned (.tuple #[]) ∧ ∃ n os, w' = sortWorld encM w blk off n (d.toList.mergeSort fun x y => !(ltOf cfM) y x).toArray os := by
  have eg : ∀ args w, (callFunc 93 args).run Tryz.prog w = .ok (.enter 93 args) w := enters_of Tryz.func93 (by kernel_rfl) rfl
  exact Any.slices_SortFunc_total Tryz.sortL encM (fun _ => rfl) cfM swoM 93 #[] blk off c d w eg (cmpM blk off d.size w).lays hH hblk h12 totM

theorem sort_none (p : Option Addr) (c : Nat) (fv : Value) (w : World) : Calls Tryz.prog 92 #[.slice p 0 c, fv] w fun e w' => e = .returned (.tuple #[]) ∧ w' = w :=
  AnyF.slices_SortFunc_none (P := Tryz.prog) (ρ := Tryz.sortL_ren) { Tryz.sortL with } p c fv w

theorem intsOf_mid : ∀ {cs : List SV} {l : List Int}, midInts cs = some l → ∃ m : List Mid, l = m.map (·.1) ∧ cs = m.map fun x => .v (encM x)
  | [], l, h => by simp [midInts] at h; subst h; exact ⟨[], rfl, rfl⟩
  | .v (.int .i64 x) :: r, l, h => by
    simp only [midInts] at h
    split at h
    · rename_i hx
      simp only [Option.map_eq_some_iff] at h
      obtain ⟨l', h1, rfl⟩ := h
      obtain ⟨m, rfl, rfl⟩ := intsOf_mid h1
      exact ⟨⟨x, hx⟩ :: m, rfl, rfl⟩
    · cases h

theorem insD_perm (x : Int) : ∀ l : List Int, (insD x l).Perm (x :: l)
  | [] => .refl _
  | y :: r => by
    rw [insD]
    split
    · exact .refl _
    · exact ((insD_perm x r).cons y).trans (.swap x y r)
theorem sortD_perm : ∀ l : List Int, (sortD l).Perm l
  | [] => .refl _
  | x :: r => (insD_perm x _).trans ((sortD_perm r).cons x)
theorem insD_sorted (x : Int) : ∀ l : List Int, l.Pairwise (fun a b => b ≤ a) → (insD x l).Pairwise (fun a b => b ≤ a)
  | [], _ => by simp [insD]
  | y :: r, h => by
    rw [List.pairwise_cons] at h
    rw [insD]
    split
    · rename_i hyx
      rw [List.pairwise_cons]
      refine ⟨fun a ha => ?_, List.pairwise_cons.2 h⟩
      rcases List.mem_cons.1 ha with rfl | ha
      · exact hyx
      · have := h.1 a ha; omega
    · rename_i hyx
      rw [List.pairwise_cons]
      refine ⟨fun a ha => ?_, insD_sorted x r h.2⟩
      rcases List.mem_cons.1 ((insD_perm x r).mem_iff.1 ha) with rfl | ha
      · omega
      · exact h.1 a ha
theorem sortD_sorted : ∀ l : List Int, (sortD l).Pairwise (fun a b => b ≤ a)
  | [] => .nil
  | x :: r => insD_sorted x _ (sortD_sorted r)

theorem sorted_eq {l m : List Int} (hp : l.Perm m) (hl : l.Pairwise (fun a b => b ≤ a)) (hm : m.Pairwise (fun a b => b ≤ a)) : l = m :=
  hp.eq_of_pairwise (fun a b _ _ h1 h2 => by omega) hl hm

theorem merge_eq (m : List Mid) : (m.mergeSort fun x y => !(ltOf cfM) y x).map (·.1) = sortD (m.map (·.1)) := by
  have hle : ∀ x y : Mid, (!(ltOf cfM) y x) = decide (y.1 ≤ x.1) := fun x y => by
    rw [ltM]
    by_cases h : y.1 ≤ x.1
    · have : ¬ x.1 < y.1 := by omega
      simp [h, this]
    · have : x.1 < y.1 := by omega
      simp [h, this]
  refine sorted_eq ?_ ?_ (sortD_sorted _)
  · exact ((List.mergeSort_perm m _).map _).trans (sortD_perm _).symm
  · have := List.pairwise_mergeSort (le := fun x y : Mid => !(ltOf cfM) y x) (fun a b c h1 h2 => by
      rw [hle] at *; simp at *; omega) (fun a b => by
      simp only [hle]; simp; omega) m
    rw [List.pairwise_map]
    exact this.imp fun {a b} h => by rw [hle] at h; simpa using h

theorem sortP_ok : PrimOK Tryz.prog 92 sortP := by
  refine prim_of_calls ⟨_, _, Tryz.func92, by kernel_rfl, rfl⟩ ?_
  intro w0 g S w us args x S' hp hG ha
  unfold sortP at hp
  have two : ∀ {y z : SV}, args = [y, z] → ∃ u v, us = #[u, v] ∧ R g w u y ∧ R g w v z := by
    rintro y z rfl
    obtain ⟨hl, h⟩ := ha
    obtain ⟨l⟩ := us
    match l, hl with
    | [u, v], _ => exact ⟨u, v, rfl, by simpa using h 0 y rfl, by simpa using h 1 z rfl⟩
  have fn : ∀ {v : Value}, R g w v (.func 93 [] []) → v = .func (.func 93) #[] #[] := by
    intro v hv
    cases hv with
    | func f fst cap fst' cap' h1 h2 h3 h4 =>
      have e1 : fst' = #[] := Array.eq_empty_of_size_eq_zero (by simpa using h1)
      have e2 : cap' = #[] := Array.eq_empty_of_size_eq_zero (by simpa using h3)
      rw [e1, e2]
  split at hp
  · obtain ⟨u, v, rfl, hu, hv⟩ := two rfl
    simp only [Option.some.injEq, Prod.mk.injEq] at hp
    obtain ⟨rfl, rfl⟩ := hp
    cases hu
    exact (sort_none none 0 v w).mono fun e w' ⟨he, hw⟩ => ⟨_, he, by subst hw; exact ⟨g, .tuple [] #[] rfl (fun i c hi => by simp at hi), hG, .refl ..⟩⟩
  · rename_i b n
    obtain ⟨u, v, rfl, hu, hv⟩ := two rfl
    obtain rfl := fn hv
    split at hp
    · rename_i cs hget
      split at hp
      · rename_i hc
        obtain ⟨hfl, hlen, hn6⟩ := hc
        simp only [Option.map_eq_some_iff, Prod.mk.injEq] at hp
        obtain ⟨l, hl, rfl, rfl⟩ := hp
        obtain ⟨m, rfl, rfl⟩ := intsOf_mid hl
        have hml : m.length = n := by simpa using hlen
        cases hu with
        | arr _ _ hb hn =>
          have hO := hG.obj b hb
          rw [hget] at hO
          obtain ⟨a, T, h1, h2, h3, h4, h5⟩ := hO
          have hblk : g.box b < w.heap.size := (Array.getElem?_eq_some_iff.1 h1).1
          have hcell : ∀ j, j < m.length → a[j]? = some (encM m[j]!) := by
            intro j hj
            have hj' : j < a.size := by simp at h3; omega
            have := (h4 j (.v (encM m[j]!)) (by simp [List.getElem?_eq_getElem hj, hj])).1
            have hv := R_v this
            rw [Array.getElem?_eq_getElem hj']
            simp only [Array.getD, hj', dif_pos] at hv
            simpa using hv
          have hH : Holds encM w (g.box b) 0 m.toArray := by
            intro j hj
            have hj : j < m.length := by simpa using hj
            refine ⟨?_, ?_⟩
            · simp only [World.cell?, h1, Nat.zero_add, Option.isSome_none, Bool.false_eq_true, if_false]
              rw [hcell j hj]; simp [hj]
            · simp [World.frozen?, h1]
          have hcalls := sort_calls (g.box b) 0 (g.cap b) m.toArray (by
            simp
            omega) w hH hblk
          simp only [List.size_toArray, hml] at hcalls
          refine hcalls.mono fun e w' ⟨he, q, os, hw⟩ => ⟨_, he, ?_⟩
          have hms := merge_eq m
          have hmlen : (m.mergeSort fun x y => !(ltOf cfM) y x).length = n := by rw [List.length_mergeSort]; exact hml
          generalize (m.mergeSort fun x y => !(ltOf cfM) y x) = m' at hw hms hmlen
          have hheap : w'.heap = w.heap.modify (g.box b) (onCells (putCells encM 0 m'.toArray)) ++ os := by subst hw; rfl
          have hat : w'.heap[g.box b]? = some (.cells (putCells encM 0 m'.toArray a) T (0, 0)) := by
            rw [hheap, Array.getElem?_append_left (by simpa using hblk), Array.getElem?_modify, if_pos rfl, h1]; rfl
          have hother : ∀ k, k < w.heap.size → k ≠ g.box b → w'.heap[k]? = w.heap[k]? := by
            intro k hk hne
            rw [hheap, Array.getElem?_append_left (by simpa using hk), Array.getElem?_modify, if_neg (fun e => hne e.symm)]
          have hsize : w.heap.size ≤ w'.heap.size := by rw [hheap]; simp
          have hO : Only w w' (g.box b) := ⟨by subst hw; rfl, by subst hw; rfl, by subst hw; rfl, hsize, hother⟩
          have hcs : ((sortD (m.map (·.1))).map fun x => SV.v (.int .i64 x)) = m'.map fun x => .v (encM x) := by
            rw [← hms, List.map_map]; rfl
          have hR : ObjR g w' b (.arr 1 ((sortD (m.map (·.1))).map fun x => .v (.int .i64 x))) := by
            rw [hcs]
            refine ⟨_, T, hat, by simpa [putCells] using h2, by simp [putCells]; simp at h3; omega, fun i c hi => ?_, h5⟩
            have hil : i < m'.length := by have := (List.getElem?_eq_some_iff.1 hi).1; simpa using this
            have hia : i < a.size := by simp at h3; omega
            rw [List.getElem?_map, List.getElem?_eq_getElem hil] at hi
            simp only [Option.map_some, Option.some.injEq] at hi
            subst hi
            have : (putCells encM 0 m'.toArray a).getD i undef = encM m'[i] := by
              simp [putCells, Array.getD, hia, hil]
            rw [this]
            exact ⟨.v _, rfl⟩
          obtain ⟨G1, T1⟩ := hG.put hb (by rw [hget]; trivial) hfl hO h5 _ hR
          exact ⟨g, .tuple [] #[] rfl (fun i c hi => by simp at hi), G1, T1⟩
      · cases hp
    · cases hp
  · cases hp
end Go.Proofs.YtkflapebfmcmaaaGreat
end
section
namespace Go.Sv
open Go Go.Proofs Go.Proofs.YtkflapebfmcmaaaGreat
set_option linter.all false
set_option maxRecDepth 100000

theorem kp_k1 : KP k1 := by
  intro f p h
  have h : (if f = 92 then some sortP else none) = some p := h
  split at h
  · rename_i hf; subst hf; injection h with h; subst h; exact sortP_ok
  · cases h

theorem agg_of {k : K} (hP : k.P = Tryz.prog) {t : TypeId} {fs : Array Field} (h : Tryz.prog.underlying t = some (.struct fs)) : agg? k t = some true := by
  unfold agg?; rw [hP, h]
theorem agg_int {k : K} (hP : k.P = Tryz.prog) {t : TypeId} {q : IntKind} (h : Tryz.prog.underlying t = some (.int q)) : agg? k t = some false := by
  unfold agg?; rw [hP, h]

theorem store_new {Z : Type} {k : K} {t sz : Nat} (hs : size? k t = some sz) (h1 : sz ≠ 1) {S : St} (hf : S.floor ≤ S.next) {zs ys : List SV} (hz : zs.length = sz) (hy : ys.length = sz) (K : St → Option Z) :
    storeK k t (.ptr S.next 0) (.agg ys) (S.alloc (.cells zs)) K = K ((S.alloc (.cells zs)).put S.next (.cells ys)) := by
  have hsp : splice zs 0 ys = ys := by simp [splice, hz, hy]
  simp only [storeK, hs, Option.bind_some, cellsK, if_neg h1, if_pos hy]
  have : (S.alloc (SObj.cells zs)).floor ≤ S.next := hf
  rw [if_pos this]
  have hg : (S.alloc (SObj.cells zs)).get S.next = .cells zs := by simp [St.alloc]
  rw [hg]
  simp only
  rw [if_pos (by omega), hsp]

theorem load_new {k : K} {t sz : Nat} (ha : agg? k t = some true) (hs : size? k t = some sz) {S : St} {o : SObj} {ys : List SV} (hy : ys.length = sz) : loadE k t (.ptr S.next 0) ((S.alloc o).put S.next (.cells ys)) = some (.agg ys) := by
  have hg : ((S.alloc o).put S.next (.cells ys)).get S.next = .cells ys := by simp [St.put]
  simp only [loadE, ha, hs, Option.bind_some, hg, objCells, takeVal, List.drop_zero, if_true]
  rw [if_pos (by omega), ← hy, List.take_length]

theorem fn_k1 (f : FuncId) {c : CF} (h : fnsK f = some c) : k1.fns f = some c := h
theorem fn91 : fnsK 91 = some (compF Tryz.f91) := by kernel_rfl
theorem fn36 : fnsK 36 = some (compF Tryz.f36) := by kernel_rfl
theorem bytes3 : bytes? (k1.at 91) 3 = some 8 := by kernel_rfl
theorem zero3 : zero? (k1.at 91) 3 = some [.v (.int .i64 0)] := by kernel_rfl

def ints (l : List Int) : List SV := l.map fun x => .v (.int .i64 x)

/-- What mapped has at hand behind so many rounds. -/
def Mid1 (fl : Nat) (l : List Int) (y : SV) (S : St) : Prop :=
  S.floor = fl ∧ S.floor ≤ S.next ∧ ((l = [] ∧ y = .v (.slice none 0 0)) ∨ ∃ b, y = .arr b l.length ∧ S.get b = .arr 1 (ints l) ∧ b < S.next ∧ S.floor ≤ b)

theorem append_ints {l : List Int} {y : SV} {S : St} {fl : Nat} (h : Mid1 fl l y S) (hl : l.length ≤ 100000) (a : Int) : ∃ y' S', appendE (k1.at 91) 22 y (.arr S.next 1) (S.alloc (.arr 1 [.v (.int .i64 a)])) = some (y', S') ∧ Mid1 fl (l ++ [a]) y' S' := by
  obtain ⟨hf, hn, h⟩ := h
  have he : elem? (k1.at 91) 22 = some 3 := elem_of (P_k1 91) Tryz.underlying22
  have hs : size? (k1.at 91) 3 = some 1 := size_of (P_k1 91) size3
  have hg : (S.alloc (.arr 1 [.v (.int .i64 a)])).get S.next = .arr 1 [.v (.int .i64 a)] := by simp [St.alloc]
  have hbx : (k1.at 91).inBox 3 = 1 := rfl
  rcases h with ⟨rfl, rfl⟩ | ⟨b, rfl, hb, hbn, hbf⟩
  · refine ⟨.arr (S.next + 1) 1, (S.alloc (.arr 1 [.v (.int .i64 a)])).alloc (.arr 1 [.v (.int .i64 a)]), by simp [appendE, he, hs, bytes3, zero3, srcCells, hg, hbx, room]; rfl, hf, ?_, .inr ⟨S.next + 1, rfl, ?_, ?_, ?_⟩⟩
    · simp [St.alloc]; omega
    · simp [St.alloc, ints]
    · simp [St.alloc]
    · simp [St.alloc]; omega
  · have hgb : (S.alloc (.arr 1 [.v (.int .i64 a)])).get b = .arr 1 (ints l) := by
      have : b ≠ S.next := by omega
      simp [St.alloc, this, hb]
    refine ⟨.arr (S.next + 1) (l.length + 1), ((S.alloc (.arr 1 [.v (.int .i64 a)])).put b .dead).alloc (.arr 1 (ints l ++ [.v (.int .i64 a)])), by
      simp only [appendE, he, hs, bytes3, zero3, srcCells, hg, hbx, Option.bind_some, List.length_singleton]
      simp only [Nat.mul_one, if_true, Nat.one_ne_zero, if_false, hgb]
      simp only [Option.bind_some]
      rw [if_neg (by simp), if_neg (by simp), if_pos ⟨by simp [St.alloc]; omega, trivial, by simp [ints], by simp only [room]; omega, trivial⟩]
      rfl, hf, ?_, .inr ⟨S.next + 1, by simp, ?_, ?_, ?_⟩⟩
    · simp [St.alloc, St.put]; omega
    · simp [St.alloc, St.put, ints]
    · simp [St.alloc, St.put]
    · simp [St.alloc, St.put]; omega

/-- mapped over trees with a function that gives whole numbers. -/
theorem mapped_spec (fv : SV) (g : Tree → Int) (l : List Tree) (hl : l.length ≤ 100000) (hfv : ∀ t ∈ l, ∀ S, run k1 fv [.agg t.cells] S = some (.v (.int .i64 (g t)), S)) (hfun : ∃ f a c, fv = .func f a c) (S : St) (hS : S.floor ≤ S.next) :
    ∃ y S', run k1 (.func 91 [] []) [sl Tree.cells l, fv] S = some (y, S') ∧ Mid1 S.floor (l.map g) y S' := by
  obtain ⟨f, a, c, rfl⟩ := hfun
  have hg := tell91k1 200000 l.length (l.flatMap Tree.cells) f a c S
  have hz : ([.v (.int .i64 0), .v (.int .i64 0), .v (.int .u32 0), .v (.int .u32 0), .v (.int .u32 0), .v (.int .u32 0), .v (.int .i64 0), .v (.int .i64 0), .v (.int .i64 0), .v (.int .i64 0), .v (.slice none 0 0)] : List SV).length = 11 := rfl
  suffices ∃ y S', cBody (k1.at 91) h91k1 (run k1) 200000 (compF Tryz.f91) [.sl none l.length (l.flatMap Tree.cells), .func f a c] S = some (y, S') ∧ Mid1 S.floor (l.map g) y S' by
    obtain ⟨y, S', h1, h2⟩ := this
    exact ⟨y, S', go_plain ks_k1 h91k1 200000 rfl (fn_k1 91 fn91) rfl h1, h2⟩
  rw [hg]
  clear hg
  rw [show (SV.sl none l.length (l.flatMap Tree.cells)) = sl Tree.cells l from rfl]
  generalize hF : (fun vs0 S1 => _ : List SV → St → Option (Ex × List SV × St)) = F
  have loop : ∀ (suf pre : List Tree), l = pre ++ suf → ∀ (M : Nat) (y : SV) (S1 : St), suf.length < M → Mid1 S.floor (pre.map g) y S1 →
      ∃ y' S', iter F M [y, .v (.int .i64 (pre.length : Int))] S1 = some (.exit 0, [y', .v (.int .i64 (l.length : Int))], S') ∧ Mid1 S.floor (l.map g) y' S' := by
    intro suf
    induction suf with
    | nil =>
      intro pre hp M y S1 hM hm
      obtain ⟨M, rfl⟩ : ∃ m, M = m + 1 := ⟨M - 1, by omega⟩
      simp at hp
      subst hp
      refine ⟨y, S1, iter_exit ?_, hm⟩
      rw [← hF]
      simp only [openHd_v, openInt_v, splitB_if]
      rw [if_neg (by simp)]
    | cons t r ih =>
      intro pre hp M y S1 hM hm
      obtain ⟨M, rfl⟩ : ∃ m, M = m + 1 := ⟨M - 1, by omega⟩
      have hlt : pre.length < l.length := by rw [hp]; simp
      have hget : l[pre.length] = t := by simp [hp]
      have hmem : t ∈ l := by rw [hp]; simp
      have hs37 : size? (k1.at 91) 37 = some 11 := size_of (P_k1 91) size37
      obtain ⟨y', S', ha, hm'⟩ := append_ints (l := pre.map g) (y := y) (S := (S1.alloc (.cells [.v (.int .i64 0), .v (.int .i64 0), .v (.int .u32 0), .v (.int .u32 0), .v (.int .u32 0), .v (.int .u32 0), .v (.int .i64 0), .v (.int .i64 0), .v (.int .i64 0), .v (.int .i64 0), .v (.slice none 0 0)])).put S1.next (.cells t.cells)) (fl := S.floor) (by
          obtain ⟨h1, h2, h3⟩ := hm
          refine ⟨h1, by simp [St.alloc, St.put]; omega, ?_⟩
          rcases h3 with h3 | ⟨b, e, hb, hbn, hbf⟩
          · exact .inl h3
          · refine .inr ⟨b, e, ?_, by simp [St.alloc, St.put]; omega, hbf⟩
            have : b ≠ S1.next := by omega
            simp [St.alloc, St.put, this, hb]) (by simp; omega) (g t)
      obtain ⟨z, S'', h5, h6⟩ := ih (pre ++ [t]) (by rw [hp]; simp) M y' S' (by simp at hM; omega) (by rw [List.map_append]; exact hm')
      refine ⟨z, S'', ?_, h6⟩
      rw [iter_normal (F := F) (vs' := [y', .v (.int .i64 ((pre.length : Int) + 1))]) (S' := S') (by
        rw [← hF]
        simp only [openHd_v, openInt_v, splitB_if]
        rw [if_pos (by simp; omega), index_sl (P_k1 91) Tryz.underlying35 size37 Tree.cells Tree.cells_len l pre.length hlt, hget]
        simp only [Option.bind_some]
        rw [show openCp cd37 (.cp t.cells) = openCp cd37 (.cp t.t37.enc) from rfl, openCp37]
        rw [store_new hs37 (by decide) hm.2.1 hz rfl, load_new (agg_of (P_k1 91) Tryz.underlying37) hs37 rfl]
        simp only [Option.bind_some]
        rw [openAgg37]
        have := hfv t hmem ((S1.alloc (.cells [.v (.int .i64 0), .v (.int .i64 0), .v (.int .u32 0), .v (.int .u32 0), .v (.int .u32 0), .v (.int .u32 0), .v (.int .i64 0), .v (.int .i64 0), .v (.int .i64 0), .v (.int .i64 0), .v (.slice none 0 0)])).put S1.next (.cells t.t37.enc))
        unfold Tree.cells at this
        rw [this]
        simp only [Option.bind_some, openInt_v]
        unfold Tree.cells at ha
        rw [ha]
        simp only [Option.bind_some]
        rw [wrap_in (by omega) (by omega)])]
      have e : ((pre ++ [t]).length : Int) = (pre.length : Int) + 1 := by simp
      rw [e] at h5
      exact h5
  obtain ⟨y, S', h1, h2⟩ := loop l [] rfl 200000 (.v (.slice none 0 0)) S (by omega) ⟨rfl, hS, .inl ⟨rfl, rfl⟩⟩
  have h1 : iter F 200000 [.v (.slice none 0 0), .v (.int .i64 0)] S = _ := h1
  rw [h1]
  exact ⟨y, S', by simp only [Option.bind_some, openHd_v, openInt_v, exits_exit, if_true], h2⟩
end Go.Sv
end
