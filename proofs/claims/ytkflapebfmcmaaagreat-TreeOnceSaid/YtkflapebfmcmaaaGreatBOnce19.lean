/- Parts of the proofs of this seat's laws. -/
import Derived.IntWalk
import Derived.Shelf.SlSortCmp.NoneTotal
import Derived.Shelf.SlGeneric
import Derived.Ground.SlsfProg
import Derived.WalkKit
import Derived.Test.YtkflapebfmcmaaaGreatBOnce18
import Derived.Test.YtkflapebfmcmaaaGreatBOnce16
import Derived.Test.YtkflapebfmcmaaaGreatBOnce13
section
namespace Go.Sv
open Go Go.Proofs
set_option linter.all false

/-! The data, and how they lie in cells. -/
structure Atom where
  tmp : Int
  ty : Int
  c0 : Int
  c1 : Int
  c2 : Int
  c3 : Int
deriving DecidableEq, Inhabited

def Atom.t28 (a : Atom) : T28 := ⟨a.tmp, a.ty, a.c0, a.c1, a.c2, a.c3⟩

inductive Tree where
  | mk (a : Atom) (kind ty op off : Int) (l : List Tree)

def Tree.a : Tree → Atom | .mk a _ _ _ _ _ => a
def Tree.kind : Tree → Int | .mk _ k _ _ _ _ => k
def Tree.ty : Tree → Int | .mk _ _ t _ _ _ => t
def Tree.op : Tree → Int | .mk _ _ _ o _ _ => o
def Tree.off : Tree → Int | .mk _ _ _ _ o _ => o
def Tree.l : Tree → List Tree | .mk _ _ _ _ _ l => l

/-- A list in memory. -/
def sl {α : Type} (f : α → List SV) (l : List α) : SV := .sl none l.length (l.flatMap f)

mutual
def Tree.t37 : Tree → T37
  | .mk a kind ty op off l => ⟨a.tmp, a.ty, a.c0, a.c1, a.c2, a.c3, kind, ty, op, off, .sl none l.length (cellsT l)⟩
def cellsT : List Tree → List SV
  | [] => []
  | t :: r => t.t37.enc ++ cellsT r
end

def Tree.cells (t : Tree) : List SV := t.t37.enc

theorem cellsT_eq : ∀ l : List Tree, cellsT l = l.flatMap Tree.cells
  | [] => by simp [cellsT]
  | t :: r => by simp [cellsT, cellsT_eq r, Tree.cells]

theorem t37_l (t : Tree) : t.t37.l = sl Tree.cells t.l := by
  cases t; simp [Tree.t37, sl, Tree.l, cellsT_eq]
theorem t37_kind (t : Tree) : t.t37.kind = t.kind := by cases t; simp [Tree.t37, Tree.kind]
theorem Tree.cells_len (t : Tree) : t.cells.length = 11 := by simp [Tree.cells, T37.enc]

/-! Told programs, at values. -/
section
variable {Z : Type}
theorem openInt_v (a : Int) (K : Int → Option Z) : openInt (.v (.int .i64 a)) K = K a := rfl
theorem openBool_v (a : Bool) (K : Bool → Option Z) : openBool (.v (.bool a)) K = K a := rfl
theorem openHd_v (x : SV) (r : List SV) (K : SV → List SV → Option Z) : openHd (x :: r) K = K x r := rfl
theorem openAgg28 (a : T28) (K : cd28.α → Option Z) : openAgg cd28 (.agg a.enc) K = K a := rfl
theorem splitB_t (a b : Option Z) : splitB (.v (.bool true)) a b = a := rfl
theorem splitB_f (a b : Option Z) : splitB (.v (.bool false)) a b = b := rfl
theorem splitB_if (c : Bool) (a b : Option Z) : splitB (.v (.bool c)) a b = if c = true then a else b := by cases c <;> rfl
theorem exits_exit (i : Nat) (K : Nat → Option Z) (q : Option Z) : exits (.exit i) K q = K i := rfl
end

/-- The program's tables are the seat's. -/
theorem P_kt (f : FuncId) : (kt.at f).P = Tryz.prog := rfl
theorem elem_of {k : K} (hP : k.P = Tryz.prog) {t e : TypeId} (h : Tryz.prog.underlying t = some (.slice e)) : elem? k t = some e := by
  unfold elem?; rw [hP, h]
theorem size_of {k : K} (hP : k.P = Tryz.prog) {t n : Nat} (h : (Tryz.prog.info? t).map (·.size) = some n) : size? k t = some n := by
  unfold size?; rw [hP, h]

theorem size37 : (Tryz.prog.info? 37).map (·.size) = some 11 := by kernel_rfl
theorem size28' : (Tryz.prog.info? 28).map (·.size) = some 6 := by kernel_rfl
theorem size3 : (Tryz.prog.info? 3).map (·.size) = some 1 := by kernel_rfl
theorem size57' : (Tryz.prog.info? 57).map (·.size) = some 13 := by kernel_rfl
theorem size59' : (Tryz.prog.info? 59).map (·.size) = some 19 := by kernel_rfl
theorem size108' : (Tryz.prog.info? 108).map (·.size) = some 2 := by kernel_rfl

theorem drop_take_flatMap {α β : Type} (f : α → List β) (sz : Nat) (hf : ∀ x, (f x).length = sz) : ∀ (l : List α) (i : Nat) (h : i < l.length), ((l.flatMap f).drop (i * sz)).take sz = f l[i]
  | x :: r, 0, h => by
    simp only [Nat.zero_mul, List.drop_zero, List.flatMap_cons, List.getElem_cons_zero]
    rw [List.take_append_of_le_length (by rw [hf]; exact Nat.le_refl _), List.take_of_length_le (by rw [hf]; exact Nat.le_refl _)]
  | x :: r, i + 1, h => by
    simp only [List.flatMap_cons, List.getElem_cons_succ]
    have e : (i + 1) * sz = (f x).length + i * sz := by rw [hf, Nat.add_mul]; omega
    rw [e, ← List.drop_drop, List.drop_left]
    exact drop_take_flatMap f sz hf r i (by simpa using h)

theorem flatMap_len {α β : Type} (f : α → List β) (sz : Nat) (hf : ∀ x, (f x).length = sz) (l : List α) : (l.flatMap f).length = l.length * sz := by
  induction l with
  | nil => simp
  | cons x r ih => simp [ih, hf, Nat.add_mul]; omega

theorem index_sl {k : K} {t e sz : Nat} (hP : k.P = Tryz.prog) (ht : Tryz.prog.underlying t = some (.slice e)) (hs : (Tryz.prog.info? e).map (·.size) = some sz) {α : Type} (f : α → List SV) (hf : ∀ x, (f x).length = sz) (l : List α) (i : Nat) (h : i < l.length) (q : IntKind) :
    indexAddrE k t (sl f l) (.v (.int q (i : Int))) = some (.cp (f l[i])) := by
  simp only [indexAddrE, hP, ht, sl, size_of hP hs, Option.bind_some]
  rw [if_pos]
  · simp only [Int.toNat_natCast]
    rw [drop_take_flatMap f sz hf l i h]
  · refine ⟨Int.natCast_nonneg _, by omega, ?_⟩
    rw [flatMap_len f sz hf, Int.toNat_natCast]
    exact Nat.mul_le_mul_right _ h

theorem len_sl {k : K} {t e : Nat} (hP : k.P = Tryz.prog) (ht : Tryz.prog.underlying t = some (.slice e)) {α : Type} (f : α → List SV) (l : List α) : lenE k t (sl f l) = some (.v (.int .i64 (l.length : Int))) := by
  simp [lenE, elem_of hP ht, sl]

/-! Loops. -/
theorem abs_iter {Z : Type} {F0 : List SV → St → Option (Ex × List SV × St)} {M : Nat} {vs : List SV} {S : St} {K : Ex × List SV × St → Option Z} {z : Option Z} (h : ∀ F, F = F0 → (iter F M vs S).bind K = z) : (iter F0 M vs S).bind K = z := h F0 rfl
theorem iter_normal {F : List SV → St → Option (Ex × List SV × St)} {M : Nat} {vs vs' : List SV} {S S' : St} (h : F vs S = some (.normal, vs', S')) : iter F (M + 1) vs S = iter F M vs' S' := by
  simp only [iter, h, Option.bind_some]
theorem iter_exit {F : List SV → St → Option (Ex × List SV × St)} {M : Nat} {vs vs' : List SV} {S S' : St} {i : Nat} (h : F vs S = some (.exit i, vs', S')) : iter F (M + 1) vs S = some (.exit i, vs', S') := by
  simp only [iter, h, Option.bind_some]
theorem iter_ret {F : List SV → St → Option (Ex × List SV × St)} {M : Nat} {vs vs' : List SV} {S S' : St} (h : F vs S = some (.ret, vs', S')) : iter F (M + 1) vs S = some (.ret, vs', S') := by
  simp only [iter, h, Option.bind_some]

/-! Whole numbers that fit. -/
theorem wrap_in {a : Int} (h0 : -9223372036854775808 ≤ a) (h1 : a ≤ 9223372036854775807) : IntKind.wrap .i64 a = a := IntWalk.i64_in a ⟨h0, h1⟩
end Go.Sv
end
section
namespace Go.Sv
open Go Go.Proofs
set_option linter.all false
set_option maxRecDepth 1000000
def h35 : H := { hh with live := fun b => match b with  | _ => [], keep := fun b => match b with  | _ => none }
theorem tell35 (N : Nat) (u0 : T37) : cBody (kt.at 35) h35 (run kt) N (compF Tryz.f35) [.agg u0.enc] St0 = (some ((.v (.bool (u0.kind == (0 : Int)))), St0)) := by kernel_rfl
def h9 : H := { hh with live := fun b => match b with | 0 => [(2, 2), (4, 1), (6, 1)] | _ => [], keep := fun b => match b with | 10 => some [(16, 2)] | 35 => some [(41, 2)] | 55 => some [(2, 2)] | _ => none }
end Go.Sv
end
section
namespace Go.Sv
open Go Go.Proofs Go.Proofs.YtkflapebfmcmaaaGreat
set_option linter.all false
set_option maxRecDepth 100000

section
variable {P : Tree → Prop}
mutual
theorem Tree.ind (h : ∀ a k ty op off l, (∀ t ∈ l, P t) → P (.mk a k ty op off l)) : ∀ t, P t
  | .mk a k ty op off l => h a k ty op off l (Tree.indL h l)
theorem Tree.indL (h : ∀ a k ty op off l, (∀ t ∈ l, P t) → P (.mk a k ty op off l)) : ∀ (l : List Tree), ∀ t ∈ l, P t
  | [], _, ht => by cases ht
  | x :: r, t, ht => by
    rcases List.mem_cons.1 ht with e | ht
    · rw [e]; exact Tree.ind h x
    · exact Tree.indL h r t ht
end
end

theorem shutL_append (a b : List SV) : shutL (a ++ b) = shutL a ++ shutL b := by simp [shutL_map]
theorem weakL_append (a b : List SV) : weakL (a ++ b) = weakL a ++ weakL b := by simp [weakL_map]

/-- Nothing of a tree hangs on the state. -/
theorem tree_clean : ∀ t : Tree, shutL t.cells = t.cells ∧ weakL t.cells = t.cells := by
  apply Tree.ind
  intro a k ty op off l ih
  have hl : shutL (cellsT l) = cellsT l ∧ weakL (cellsT l) = cellsT l := by
    induction l with
    | nil => simp [cellsT, shutL, weakL]
    | cons t r ihr =>
      have h1 := ih t (by simp)
      have h2 := ihr (fun t ht => ih t (by simp [ht]))
      simp only [cellsT, shutL_append, weakL_append, h2.1, h2.2]
      have := h1.1
      have := h1.2
      unfold Tree.cells at *
      simp_all
  simp [Tree.cells, Tree.t37, T37.enc, shutL, shut, weakL, weak, weakV, hl.1, hl.2]

theorem tree_ws (t : Tree) : weak (shut (.agg t.cells)) = .agg t.cells := by
  simp [shut, weak, (tree_clean t).1, (tree_clean t).2]
theorem int_ws (q : IntKind) (a : Int) : weak (shut (.v (.int q a))) = .v (.int q a) := rfl

theorem fn_kt (f : FuncId) {c : CF} (h : fnsK f = some c) : kt.fns f = some c := h
theorem fn35 : fnsK 35 = some (compF Tryz.f35) := by kernel_rfl
theorem ks_kt : KS kt := ks_kk _ _

/-- IsLeaf. -/
theorem leaf_spec (t : Tree) (S : St) : run kt (.func 35 [] []) [.agg t.cells] S = some (.v (.bool (t.kind == 0)), S) := by
  have := go_closed ks_kt (f := 35) (fst := []) (cap := []) (args := [.agg t.cells]) (S := S) h35 0 rfl (fn_kt 35 fn35) rfl (z := (.v (.bool (t.kind == 0)), St0)) (by
    simp only [List.nil_append, List.append_nil, List.map_cons, List.map_nil, tree_ws]
    have := tell35 0 t.t37
    rw [t37_kind] at this
    exact this)
  exact this

mutual
def cntM : Tree → Int → Nat → Int
  | .mk _ _ _ _ _ _, most, 0 => most + 1
  | .mk _ _ _ _ _ l, most, d + 1 => cntL l most d 1
def cntL : List Tree → Int → Nat → Int → Int
  | [], _, _, n => n
  | t :: r, most, d, n => if n ≤ most then cntL r most d (n + cntM t (most - n) d) else n
end

end Go.Sv
end
section
namespace Go.Proofs
open Go.Shelf
def Tryz.sortL_ren : Go.Shelf.Ren := ⟨fun | 6 => 92 | 15 => 143 | 14 => 142 | 28 => 190 | 29 => 191 | 20 => 182 | 21 => 183 | 22 => 184 | 23 => 185 | 24 => 186 | 25 => 187 | 26 => 188 | 27 => 189 | 46 => 207 | 47 => 208 | 48 => 209 | 49 => 210 | 50 => 211 | 57 => 214 | n => n, fun | 22 => 22 | 24 => 3 | 25 => 139 | 3 => 3 | 39 => 182 | 0 => 0 | 53 => 24 | 55 => 199 | 4 => 4 | 46 => 206 | 45 => 205 | 50 => 210 | 5 => 5 | 9 => 9 | 66 => 225 | 70 => 229 | 76 => 233 | 77 => 85 | n => n, fun | n => n⟩
theorem Tryz.sortL : Go.Proofs.SlLaysF.n6 Tryz.prog Tryz.sortL_ren := {
  mixed := by kernel_rfl
  f6 := ⟨Tryz.f92.name, by kernel_rfl, Tryz.func92.trans (congrArg some (by kernel_rfl))⟩
  f14 := ⟨Tryz.f142.name, by kernel_rfl, Tryz.func142.trans (congrArg some (by kernel_rfl))⟩
  f15 := Tryz.func143.trans (congrArg some (by kernel_rfl))
  f20 := ⟨Tryz.f182.name, by kernel_rfl, Tryz.func182.trans (congrArg some (by kernel_rfl))⟩
  f21 := ⟨Tryz.f183.name, by kernel_rfl, Tryz.func183.trans (congrArg some (by kernel_rfl))⟩
  f22 := ⟨Tryz.f184.name, by kernel_rfl, Tryz.func184.trans (congrArg some (by kernel_rfl))⟩
  f23 := ⟨Tryz.f185.name, by kernel_rfl, Tryz.func185.trans (congrArg some (by kernel_rfl))⟩
  f24 := ⟨Tryz.f186.name, by kernel_rfl, Tryz.func186.trans (congrArg some (by kernel_rfl))⟩
  f25 := ⟨Tryz.f187.name, by kernel_rfl, Tryz.func187.trans (congrArg some (by kernel_rfl))⟩
  f26 := ⟨Tryz.f188.name, by kernel_rfl, Tryz.func188.trans (congrArg some (by kernel_rfl))⟩
  f27 := ⟨Tryz.f189.name, by kernel_rfl, Tryz.func189.trans (congrArg some (by kernel_rfl))⟩
  f28 := Tryz.func190.trans (congrArg some (by kernel_rfl))
  f29 := Tryz.func191.trans (congrArg some (by kernel_rfl))
  f46 := ⟨Tryz.f207.name, by kernel_rfl, Tryz.func207.trans (congrArg some (by kernel_rfl))⟩
  f47 := Tryz.func208.trans (congrArg some (by kernel_rfl))
  f48 := Tryz.func209.trans (congrArg some (by kernel_rfl))
  f49 := ⟨Tryz.f210.name, by kernel_rfl, Tryz.func210.trans (congrArg some (by kernel_rfl))⟩
  f50 := ⟨Tryz.f211.name, by kernel_rfl, Tryz.func211.trans (congrArg some (by kernel_rfl))⟩
  f57 := ⟨Tryz.f214.name, by kernel_rfl, Tryz.func214.trans (congrArg some (by kernel_rfl))⟩
  t0 := Tryz.underlying0
  a0 := Tryz.isAgg0
  z0 := Tryz.sizeOf0
  v0 := Tryz.zeroValue0
  t3 := Tryz.underlying3
  a3 := Tryz.isAgg3
  z3 := Tryz.sizeOf3
  v3 := Tryz.zeroValue3
  t4 := Tryz.underlying4
  a4 := Tryz.isAgg4
  z4 := Tryz.sizeOf4
  v4 := Tryz.zeroValue4
  t5 := Tryz.underlying5
  a5 := Tryz.isAgg5
  z5 := Tryz.sizeOf5
  v5 := Tryz.zeroValue5
  t9 := Tryz.underlying9
  a9 := Tryz.isAgg9
  z9 := Tryz.sizeOf9
  v9 := Tryz.zeroValue9
  t22 := Tryz.underlying22
  a22 := Tryz.isAgg22
  z22 := Tryz.sizeOf22
  v22 := Tryz.zeroValue22
  a24 := Tryz.isAgg3
  z24 := Tryz.sizeOf3
  t25 := Tryz.underlying139
  a25 := Tryz.isAgg139
  z25 := Tryz.sizeOf139
  v25 := Tryz.zeroValue139
  t39 := Tryz.underlying182
  a39 := Tryz.isAgg182
  z39 := Tryz.sizeOf182
  v39 := Tryz.zeroValue182
  t45 := Tryz.underlying205
  a45 := Tryz.isAgg205
  z45 := Tryz.sizeOf205
  v45 := Tryz.zeroValue205
  t46 := Tryz.underlying206
  a46 := Tryz.isAgg206
  z46 := Tryz.sizeOf206
  v46 := Tryz.zeroValue206
  t50 := Tryz.underlying210
  a50 := Tryz.isAgg210
  z50 := Tryz.sizeOf210
  v50 := Tryz.zeroValue210
  t53 := Tryz.underlying24
  a53 := Tryz.isAgg24
  z53 := Tryz.sizeOf24
  v53 := Tryz.zeroValue24
  t55 := Tryz.underlying199
  a55 := Tryz.isAgg199
  z55 := Tryz.sizeOf199
  v55 := Tryz.zeroValue199
  t66 := Tryz.underlying225
  a66 := Tryz.isAgg225
  z66 := Tryz.sizeOf225
  v66 := Tryz.zeroValue225
  t70 := Tryz.underlying229
  a70 := Tryz.isAgg229
  z70 := Tryz.sizeOf229
  v70 := Tryz.zeroValue229
  t76 := Tryz.underlying233
  a76 := Tryz.isAgg233
  z76 := Tryz.sizeOf233
  v76 := Tryz.zeroValue233
  t77 := Tryz.underlying85
  a77 := Tryz.isAgg85
  z77 := Tryz.sizeOf85
  v77 := Tryz.zeroValue85 }
end Go.Proofs
namespace Go.Proofs.YtkflapebfmcmaaaGreat
open Go Go.Sv Go.RowKit Go.Shelf Go.Sort
set_option linter.all false
set_option maxRecDepth 100000

/-- Numbers of a middling size. -/
def Mid : Type := { x : Int // 0 ≤ x ∧ x ≤ 1000000 }
instance : Inhabited Mid := ⟨⟨0, by decide⟩⟩
def encM (x : Mid) : Value := .int .i64 x.1
def cfM (x y : Mid) : Int := y.1 - x.1

theorem ltM (x y : Mid) : ltOf cfM x y = decide (y.1 < x.1) := by
  unfold ltOf cfM
  by_cases h : y.1 < x.1
  · have h' : y.1 - x.1 < 0 := by omega
    simp [h, h']
  · have h' : ¬ y.1 - x.1 < 0 := by omega
    simp [h, h']
theorem swoM : SWO (ltOf cfM) where
  irrefl x := by rw [ltM]; simp
  trans x y z h1 h2 := by rw [ltM] at *; simp at *; omega
  ntrans x y z h1 h2 := by rw [ltM] at *; simp at *; omega
theorem totM (x y : Mid) (h1 : ltOf cfM x y = false) (h2 : ltOf cfM y x = false) : x = y := by
  rw [ltM] at *
  simp at h1 h2
  exact Subtype.ext (by omega)

set_option maxHeartbeats 1000000 in
/-- The program's own closure. -/
theorem closure93 (x y : Mid) (W : World) : Calls Tryz.prog 93 #[encM x, encM y] W fun e w' => e = .returned (.int .i64 (cfM x y)) ∧ ∃ q, w' = W.drewN q := by
  obtain ⟨x, hx0, hx1⟩ := x
  obtain ⟨y, hy0, hy1⟩ := y
  unfold encM cfM
  simp only
  go_enter Tryz.func93, Tryz.ntmps93
  go_wp2
  go_ret
  refine ⟨?_, 0, rfl⟩
  first | rfl | (congr 2; omega)

theorem cmpM (blk off size : Nat) (w : World) : CmpReads Tryz.prog 93 #[] encM cfM blk off size w := fun _ _ _ _ x y => closure93 x y _

theorem sort_calls (blk off c : Nat) (d : Array Mid) (h12 : d.size < 4611686018427387904) (w : World) (hH : Holds encM w blk off d) (hblk : blk < w.heap.size) :
    Calls Tryz.prog 92 #[.slice (some ⟨blk, off, none⟩) d.size c, .func (.func 93) #[] #[]] w fun e w' =>
      e = .returned (.tuple #[]) ∧ ∃ n os, w' = sortWorld encM w blk off n (d.toList.mergeSort fun x y => !(ltOf cfM) y x).toArray os := by
  have eg : ∀ args w, (callFunc 93 args).run Tryz.prog w = .ok (.enter 93 args) w := enters_of Tryz.func93 (by kernel_rfl) rfl
  exact Any.slices_SortFunc_total Tryz.sortL encM (fun _ => rfl) cfM swoM 93 #[] blk off c d w eg (cmpM blk off d.size w).lays hH hblk h12 totM

theorem sort_none (p : Option Addr) (c : Nat) (fv : Value) (w : World) : Calls Tryz.prog 92 #[.slice p 0 c, fv] w fun e w' => e = .returned (.tuple #[]) ∧ w' = w :=
  AnyF.slices_SortFunc_none (P := Tryz.prog) (ρ := Tryz.sortL_ren) { Tryz.sortL with } p c fv w

theorem intsOf_mid : ∀ {cs : List SV} {l : List Int}, midInts cs = some l → ∃ m : List Mid, l = m.map (·.1) ∧ cs = m.map fun x => .v (encM x)
  | [], l, h => by simp [midInts] at h; subst h; exact ⟨[], rfl, rfl⟩
  | .v (.int .i64 x) :: r, l, h => by
    simp only [midInts] at h
    split at h
    · rename_i hx
      simp only [Option.map_eq_some_iff] at h
      obtain ⟨l', h1, rfl⟩ := h
      obtain ⟨m, rfl, rfl⟩ := intsOf_mid h1
      exact ⟨⟨x, hx⟩ :: m, rfl, rfl⟩
    · cases h

theorem insD_perm (x : Int) : ∀ l : List Int, (insD x l).Perm (x :: l)
  | [] => .refl _
  | y :: r => by
    rw [insD]
    split
    · exact .refl _
    · exact ((insD_perm x r).cons y).trans (.swap x y r)
theorem sortD_perm : ∀ l : List Int, (sortD l).Perm l
  | [] => .refl _
  | x :: r => (insD_perm x _).trans ((sortD_perm r).cons x)
theorem insD_sorted (x : Int) : ∀ l : List Int, l.Pairwise (fun a b => b ≤ a) → (insD x l).Pairwise (fun a b => b ≤ a)
  | [], _ => by simp [insD]
  | y :: r, h => by
    rw [List.pairwise_cons] at h
    rw [insD]
    split
    · rename_i hyx
      rw [List.pairwise_cons]
      refine ⟨fun a ha => ?_, List.pairwise_cons.2 h⟩
      rcases List.mem_cons.1 ha with rfl | ha
      · exact hyx
      · have := h.1 a ha; omega
    · rename_i hyx
      rw [List.pairwise_cons]
      refine ⟨fun a ha => ?_, insD_sorted x r h.2⟩
      rcases List.mem_cons.1 ((insD_perm x r).mem_iff.1 ha) with rfl | ha
      · omega
      · exact h.1 a ha
theorem sortD_sorted : ∀ l : List Int, (sortD l).Pairwise (fun a b => b ≤ a)
  | [] => .nil
  | x :: r => insD_sorted x _ (sortD_sorted r)

theorem sorted_eq {l m : List Int} (hp : l.Perm m) (hl : l.Pairwise (fun a b => b ≤ a)) (hm : m.Pairwise (fun a b => b ≤ a)) : l = m :=
  hp.eq_of_pairwise (fun a b _ _ h1 h2 => by omega) hl hm

theorem merge_eq (m : List Mid) : (m.mergeSort fun x y => !(ltOf cfM) y x).map (·.1) = sortD (m.map (·.1)) := by
  have hle : ∀ x y : Mid, (!(ltOf cfM) y x) = decide (y.1 ≤ x.1) := fun x y => by
    rw [ltM]
    by_cases h : y.1 ≤ x.1
    · have : ¬ x.1 < y.1 := by omega
      simp [h, this]
    · have : x.1 < y.1 := by omega
      simp [h, this]
  refine sorted_eq ?_ ?_ (sortD_sorted _)
  · exact ((List.mergeSort_perm m _).map _).trans (sortD_perm _).symm
  · have := List.pairwise_mergeSort (le := fun x y : Mid => !(ltOf cfM) y x) (fun a b c h1 h2 => by
      rw [hle] at *; simp at *; omega) (fun a b => by
      simp only [hle]; simp; omega) m
    rw [List.pairwise_map]
    exact this.imp fun {a b} h => by rw [hle] at h; simpa using h

theorem sortP_ok : PrimOK Tryz.prog 92 sortP := by
  refine prim_of_calls ⟨_, _, Tryz.func92, by kernel_rfl, rfl⟩ ?_
  intro w0 g S w us args x S' hp hG ha
  unfold sortP at hp
  have two : ∀ {y z : SV}, args = [y, z] → ∃ u v, us = #[u, v] ∧ R g w u y ∧ R g w v z := by
    rintro y z rfl
    obtain ⟨hl, h⟩ := ha
    obtain ⟨l⟩ := us
    match l, hl with
    | [u, v], _ => exact ⟨u, v, rfl, by simpa using h 0 y rfl, by simpa using h 1 z rfl⟩
  have fn : ∀ {v : Value}, R g w v (.func 93 [] []) → v = .func (.func 93) #[] #[] := by
    intro v hv
    cases hv with
    | func f fst cap fst' cap' h1 h2 h3 h4 =>
      have e1 : fst' = #[] := Array.eq_empty_of_size_eq_zero (by simpa using h1)
      have e2 : cap' = #[] := Array.eq_empty_of_size_eq_zero (by simpa using h3)
      rw [e1, e2]
  split at hp
  · obtain ⟨u, v, rfl, hu, hv⟩ := two rfl
    simp only [Option.some.injEq, Prod.mk.injEq] at hp
    obtain ⟨rfl, rfl⟩ := hp
    cases hu
    exact (sort_none none 0 v w).mono fun e w' ⟨he, hw⟩ => ⟨_, he, by subst hw; exact ⟨g, .tuple [] #[] rfl (fun i c hi => by simp at hi), hG, .refl ..⟩⟩
  · rename_i b n
    obtain ⟨u, v, rfl, hu, hv⟩ := two rfl
    obtain rfl := fn hv
    split at hp
    · rename_i cs hget
      split at hp
      · rename_i hc
        obtain ⟨hfl, hlen, hn6⟩ := hc
        simp only [Option.map_eq_some_iff, Prod.mk.injEq] at hp
        obtain ⟨l, hl, rfl, rfl⟩ := hp
        obtain ⟨m, rfl, rfl⟩ := intsOf_mid hl
        have hml : m.length = n := by simpa using hlen
        cases hu with
        | arr _ _ hb hn =>
          have hO := hG.obj b hb
          rw [hget] at hO
          obtain ⟨a, T, h1, h2, h3, h4, h5⟩ := hO
          have hblk : g.box b < w.heap.size := (Array.getElem?_eq_some_iff.1 h1).1
          have hcell : ∀ j, j < m.length → a[j]? = some (encM m[j]!) := by
            intro j hj
            have hj' : j < a.size := by simp at h3; omega
            have := (h4 j (.v (encM m[j]!)) (by simp [List.getElem?_eq_getElem hj, hj])).1
            have hv := R_v this
            rw [Array.getElem?_eq_getElem hj']
            simp only [Array.getD, hj', dif_pos] at hv
            simpa using hv
          have hH : Holds encM w (g.box b) 0 m.toArray := by
            intro j hj
            have hj : j < m.length := by simpa using hj
            refine ⟨?_, ?_⟩
            · simp only [World.cell?, h1, Nat.zero_add, Option.isSome_none, Bool.false_eq_true, if_false]
              rw [hcell j hj]; simp [hj]
            · simp [World.frozen?, h1]
          have hcalls := sort_calls (g.box b) 0 (g.cap b) m.toArray (by
            simp
            omega) w hH hblk
          simp only [List.size_toArray, hml] at hcalls
          refine hcalls.mono fun e w' ⟨he, q, os, hw⟩ => ⟨_, he, ?_⟩
          have hms := merge_eq m
          have hmlen : (m.mergeSort fun x y => !(ltOf cfM) y x).length = n := by rw [List.length_mergeSort]; exact hml
          generalize (m.mergeSort fun x y => !(ltOf cfM) y x) = m' at hw hms hmlen
          have hheap : w'.heap = w.heap.modify (g.box b) (onCells (putCells encM 0 m'.toArray)) ++ os := by subst hw; rfl
          have hat : w'.heap[g.box b]? = some (.cells (putCells encM 0 m'.toArray a) T (0, 0)) := by
            rw [hheap, Array.getElem?_append_left (by simpa using hblk), Array.getElem?_modify, if_pos rfl, h1]; rfl
          have hother : ∀ k, k < w.heap.size → k ≠ g.box b → w'.heap[k]? = w.heap[k]? := by
            intro k hk hne
            rw [hheap, Array.getElem?_append_left (by simpa using hk), Array.getElem?_modify, if_neg (fun e => hne e.symm)]
          have hsize : w.heap.size ≤ w'.heap.size := by rw [hheap]; simp
          have hO : Only w w' (g.box b) := ⟨by subst hw; rfl, by subst hw; rfl, by subst hw; rfl, hsize, hother⟩
          have hcs : ((sortD (m.map (·.1))).map fun x => SV.v (.int .i64 x)) = m'.map fun x => .v (encM x) := by
            rw [← hms, List.map_map]; rfl
          have hR : ObjR g w' b (.arr 1 ((sortD (m.map (·.1))).map fun x => .v (.int .i64 x))) := by
            rw [hcs]
            refine ⟨_, T, hat, by simpa [putCells] using h2, by simp [putCells]; simp at h3; omega, fun i c hi => ?_, h5⟩
            have hil : i < m'.length := by have := (List.getElem?_eq_some_iff.1 hi).1; simpa using this
            have hia : i < a.size := by simp at h3; omega
            rw [List.getElem?_map, List.getElem?_eq_getElem hil] at hi
            simp only [Option.map_some, Option.some.injEq] at hi
            subst hi
            have : (putCells encM 0 m'.toArray a).getD i undef = encM m'[i] := by
              simp [putCells, Array.getD, hia, hil]
            rw [this]
            exact ⟨.v _, rfl⟩
          obtain ⟨G1, T1⟩ := hG.put hb (by rw [hget]; trivial) hfl hO h5 _ hR
          exact ⟨g, .tuple [] #[] rfl (fun i c hi => by simp at hi), G1, T1⟩
      · cases hp
    · cases hp
  · cases hp
end Go.Proofs.YtkflapebfmcmaaaGreat
end
section
namespace Go.Sv
open Go Go.Proofs Go.Proofs.YtkflapebfmcmaaaGreat
set_option linter.all false
set_option maxRecDepth 100000

theorem kp_k1 : KP k1 := by
  intro f p h
  have h : (if f = 92 then some sortP else none) = some p := h
  split at h
  · rename_i hf; subst hf; injection h with h; subst h; exact sortP_ok
  · cases h

end Go.Sv
end
