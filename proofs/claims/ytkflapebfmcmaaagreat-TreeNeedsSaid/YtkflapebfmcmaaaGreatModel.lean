/- A part of the proofs of this seat's laws: an interpreter of the program's form, its soundness against the model, or what it answers on this program. -/
import Derived.Test.YtkflapebfmcmaaaGreatTC
import Derived.Test.YtkflapebfmcmaaaGreatSvV
import Derived.Test.YtkflapebfmcmaaaGreatKs
import Derived.IntWalk
namespace Go.Sv
open Go Go.Proofs
set_option linter.all false

/-! The data, and how they lie in cells. -/
structure Atom where
  tmp : Int
  ty : Int
  c0 : Int
  c1 : Int
  c2 : Int
  c3 : Int
deriving DecidableEq, Inhabited

def Atom.t28 (a : Atom) : T28 := ⟨a.tmp, a.ty, a.c0, a.c1, a.c2, a.c3⟩

inductive Tree where
  | mk (a : Atom) (kind ty op off : Int) (l : List Tree)

def Tree.a : Tree → Atom | .mk a _ _ _ _ _ => a
def Tree.kind : Tree → Int | .mk _ k _ _ _ _ => k
def Tree.ty : Tree → Int | .mk _ _ t _ _ _ => t
def Tree.op : Tree → Int | .mk _ _ _ o _ _ => o
def Tree.off : Tree → Int | .mk _ _ _ _ o _ => o
def Tree.l : Tree → List Tree | .mk _ _ _ _ _ l => l

/-- A list in memory. -/
def sl {α : Type} (f : α → List SV) (l : List α) : SV := .sl none l.length (l.flatMap f)

mutual
def Tree.t37 : Tree → T37
  | .mk a kind ty op off l => ⟨a.tmp, a.ty, a.c0, a.c1, a.c2, a.c3, kind, ty, op, off, .sl none l.length (cellsT l)⟩
def cellsT : List Tree → List SV
  | [] => []
  | t :: r => t.t37.enc ++ cellsT r
end

def Tree.cells (t : Tree) : List SV := t.t37.enc

theorem cellsT_eq : ∀ l : List Tree, cellsT l = l.flatMap Tree.cells
  | [] => by simp [cellsT]
  | t :: r => by simp [cellsT, cellsT_eq r, Tree.cells]

theorem t37_l (t : Tree) : t.t37.l = sl Tree.cells t.l := by
  cases t; simp [Tree.t37, sl, Tree.l, cellsT_eq]
theorem t37_kind (t : Tree) : t.t37.kind = t.kind := by cases t; simp [Tree.t37, Tree.kind]
theorem t37_ty (t : Tree) : t.t37.ty = t.ty := by cases t; simp [Tree.t37, Tree.ty]
theorem t37_op (t : Tree) : t.t37.op = t.op := by cases t; simp [Tree.t37, Tree.op]
theorem t37_off (t : Tree) : t.t37.off = t.off := by cases t; simp [Tree.t37, Tree.off]
theorem t37_tmp (t : Tree) : t.t37.a_Tmp = t.a.tmp := by cases t; simp [Tree.t37, Tree.a]
theorem t37_aty (t : Tree) : t.t37.a_Ty = t.a.ty := by cases t; simp [Tree.t37, Tree.a]
theorem t37_c0 (t : Tree) : t.t37.a_C0 = t.a.c0 := by cases t; simp [Tree.t37, Tree.a]
theorem t37_c1 (t : Tree) : t.t37.a_C1 = t.a.c1 := by cases t; simp [Tree.t37, Tree.a]
theorem t37_c2 (t : Tree) : t.t37.a_C2 = t.a.c2 := by cases t; simp [Tree.t37, Tree.a]
theorem t37_c3 (t : Tree) : t.t37.a_C3 = t.a.c3 := by cases t; simp [Tree.t37, Tree.a]
theorem Tree.cells_len (t : Tree) : t.cells.length = 11 := by simp [Tree.cells, T37.enc]

/-! Told programs, at values. -/
section
variable {Z : Type}
theorem openInt_v (a : Int) (K : Int → Option Z) : openInt (.v (.int .i64 a)) K = K a := rfl
theorem openBool_v (a : Bool) (K : Bool → Option Z) : openBool (.v (.bool a)) K = K a := rfl
theorem openHd_v (x : SV) (r : List SV) (K : SV → List SV → Option Z) : openHd (x :: r) K = K x r := rfl
theorem openCp37 (a : T37) (K : cd37.α → Option Z) : openCp cd37 (.cp a.enc) K = K a := rfl
theorem openAgg37 (a : T37) (K : cd37.α → Option Z) : openAgg cd37 (.agg a.enc) K = K a := rfl
theorem openCp28 (a : T28) (K : cd28.α → Option Z) : openCp cd28 (.cp a.enc) K = K a := rfl
theorem openAgg28 (a : T28) (K : cd28.α → Option Z) : openAgg cd28 (.agg a.enc) K = K a := rfl
theorem openCp55 (a : T55) (K : cd55.α → Option Z) : openCp cd55 (.cp a.enc) K = K a := rfl
theorem openAgg55 (a : T55) (K : cd55.α → Option Z) : openAgg cd55 (.agg a.enc) K = K a := rfl
theorem openCp57 (a : T57) (K : cd57.α → Option Z) : openCp cd57 (.cp a.enc) K = K a := rfl
theorem openAgg57 (a : T57) (K : cd57.α → Option Z) : openAgg cd57 (.agg a.enc) K = K a := rfl
theorem openCp59 (a : T59) (K : cd59.α → Option Z) : openCp cd59 (.cp a.enc) K = K a := rfl
theorem openAgg59 (a : T59) (K : cd59.α → Option Z) : openAgg cd59 (.agg a.enc) K = K a := rfl
theorem openAgg31 (a : T31) (K : cd31.α → Option Z) : openAgg cd31 (.agg a.enc) K = K a := rfl
theorem openAgg39 (a : T39) (K : cd39.α → Option Z) : openAgg cd39 (.agg a.enc) K = K a := rfl
theorem splitB_t (a b : Option Z) : splitB (.v (.bool true)) a b = a := rfl
theorem splitB_f (a b : Option Z) : splitB (.v (.bool false)) a b = b := rfl
theorem splitB_if (c : Bool) (a b : Option Z) : splitB (.v (.bool c)) a b = if c = true then a else b := by cases c <;> rfl
theorem exits_ret (K : Nat → Option Z) (q : Option Z) : exits .ret K q = q := rfl
theorem exits_exit (i : Nat) (K : Nat → Option Z) (q : Option Z) : exits (.exit i) K q = K i := rfl
end

/-- The program's tables are the seat's. -/
theorem P_kt (f : FuncId) : (kt.at f).P = Tryz.prog := rfl
theorem P_k1 (f : FuncId) : (k1.at f).P = Tryz.prog := rfl

theorem elem_of {k : K} (hP : k.P = Tryz.prog) {t e : TypeId} (h : Tryz.prog.underlying t = some (.slice e)) : elem? k t = some e := by
  unfold elem?; rw [hP, h]
theorem size_of {k : K} (hP : k.P = Tryz.prog) {t n : Nat} (h : (Tryz.prog.info? t).map (·.size) = some n) : size? k t = some n := by
  unfold size?; rw [hP, h]

theorem size37 : (Tryz.prog.info? 37).map (·.size) = some 11 := by kernel_rfl
theorem size28' : (Tryz.prog.info? 28).map (·.size) = some 6 := by kernel_rfl
theorem size3 : (Tryz.prog.info? 3).map (·.size) = some 1 := by kernel_rfl
theorem size57' : (Tryz.prog.info? 57).map (·.size) = some 13 := by kernel_rfl
theorem size59' : (Tryz.prog.info? 59).map (·.size) = some 19 := by kernel_rfl
theorem size108' : (Tryz.prog.info? 108).map (·.size) = some 2 := by kernel_rfl

theorem drop_take_flatMap {α β : Type} (f : α → List β) (sz : Nat) (hf : ∀ x, (f x).length = sz) : ∀ (l : List α) (i : Nat) (h : i < l.length), ((l.flatMap f).drop (i * sz)).take sz = f l[i]
  | x :: r, 0, h => by
    simp only [Nat.zero_mul, List.drop_zero, List.flatMap_cons, List.getElem_cons_zero]
    rw [List.take_append_of_le_length (by rw [hf]; exact Nat.le_refl _), List.take_of_length_le (by rw [hf]; exact Nat.le_refl _)]
  | x :: r, i + 1, h => by
    simp only [List.flatMap_cons, List.getElem_cons_succ]
    have e : (i + 1) * sz = (f x).length + i * sz := by rw [hf, Nat.add_mul]; omega
    rw [e, ← List.drop_drop, List.drop_left]
    exact drop_take_flatMap f sz hf r i (by simpa using h)

theorem flatMap_len {α β : Type} (f : α → List β) (sz : Nat) (hf : ∀ x, (f x).length = sz) (l : List α) : (l.flatMap f).length = l.length * sz := by
  induction l with
  | nil => simp
  | cons x r ih => simp [ih, hf, Nat.add_mul]; omega

theorem index_sl {k : K} {t e sz : Nat} (hP : k.P = Tryz.prog) (ht : Tryz.prog.underlying t = some (.slice e)) (hs : (Tryz.prog.info? e).map (·.size) = some sz) {α : Type} (f : α → List SV) (hf : ∀ x, (f x).length = sz) (l : List α) (i : Nat) (h : i < l.length) (q : IntKind) :
    indexAddrE k t (sl f l) (.v (.int q (i : Int))) = some (.cp (f l[i])) := by
  simp only [indexAddrE, hP, ht, sl, size_of hP hs, Option.bind_some]
  rw [if_pos]
  · simp only [Int.toNat_natCast]
    rw [drop_take_flatMap f sz hf l i h]
  · refine ⟨Int.natCast_nonneg _, by omega, ?_⟩
    rw [flatMap_len f sz hf, Int.toNat_natCast]
    exact Nat.mul_le_mul_right _ h

theorem len_sl {k : K} {t e : Nat} (hP : k.P = Tryz.prog) (ht : Tryz.prog.underlying t = some (.slice e)) {α : Type} (f : α → List SV) (l : List α) : lenE k t (sl f l) = some (.v (.int .i64 (l.length : Int))) := by
  simp [lenE, elem_of hP ht, sl]

/-! Loops. -/
theorem abs_iter {Z : Type} {F0 : List SV → St → Option (Ex × List SV × St)} {M : Nat} {vs : List SV} {S : St} {K : Ex × List SV × St → Option Z} {z : Option Z} (h : ∀ F, F = F0 → (iter F M vs S).bind K = z) : (iter F0 M vs S).bind K = z := h F0 rfl
theorem iter_normal {F : List SV → St → Option (Ex × List SV × St)} {M : Nat} {vs vs' : List SV} {S S' : St} (h : F vs S = some (.normal, vs', S')) : iter F (M + 1) vs S = iter F M vs' S' := by
  simp only [iter, h, Option.bind_some]
theorem iter_exit {F : List SV → St → Option (Ex × List SV × St)} {M : Nat} {vs vs' : List SV} {S S' : St} {i : Nat} (h : F vs S = some (.exit i, vs', S')) : iter F (M + 1) vs S = some (.exit i, vs', S') := by
  simp only [iter, h, Option.bind_some]
theorem iter_ret {F : List SV → St → Option (Ex × List SV × St)} {M : Nat} {vs vs' : List SV} {S S' : St} (h : F vs S = some (.ret, vs', S')) : iter F (M + 1) vs S = some (.ret, vs', S') := by
  simp only [iter, h, Option.bind_some]

/-! Whole numbers that fit. -/
theorem wrap_in {a : Int} (h0 : -9223372036854775808 ≤ a) (h1 : a ≤ 9223372036854775807) : IntKind.wrap .i64 a = a := IntWalk.i64_in a ⟨h0, h1⟩
end Go.Sv
