/- Parts of the proofs of this seat's laws: an interpreter of the program's form, its soundness against the model, or what it answers on this program. -/
import Derived.IntWalk
import Derived.Test.YtkflapebfmcmaaaGreatBBuilds18
import Derived.Test.YtkflapebfmcmaaaGreatBBuilds16
import Derived.Test.YtkflapebfmcmaaaGreatBBuilds13
section
namespace Go.Sv
open Go Go.Proofs
set_option linter.all false

/-! The data, and how they lie in cells. -/
structure Atom where
  tmp : Int
  ty : Int
  c0 : Int
  c1 : Int
  c2 : Int
  c3 : Int
deriving DecidableEq, Inhabited

def Atom.t28 (a : Atom) : T28 := ⟨a.tmp, a.ty, a.c0, a.c1, a.c2, a.c3⟩

inductive Tree where
  | mk (a : Atom) (kind ty op off : Int) (l : List Tree)

def Tree.a : Tree → Atom | .mk a _ _ _ _ _ => a
def Tree.kind : Tree → Int | .mk _ k _ _ _ _ => k
def Tree.ty : Tree → Int | .mk _ _ t _ _ _ => t
def Tree.op : Tree → Int | .mk _ _ _ o _ _ => o
def Tree.off : Tree → Int | .mk _ _ _ _ o _ => o
def Tree.l : Tree → List Tree | .mk _ _ _ _ _ l => l

/-- A list in memory. -/
def sl {α : Type} (f : α → List SV) (l : List α) : SV := .sl none l.length (l.flatMap f)

mutual
def Tree.t37 : Tree → T37
  | .mk a kind ty op off l => ⟨a.tmp, a.ty, a.c0, a.c1, a.c2, a.c3, kind, ty, op, off, .sl none l.length (cellsT l)⟩
def cellsT : List Tree → List SV
  | [] => []
  | t :: r => t.t37.enc ++ cellsT r
end

def Tree.cells (t : Tree) : List SV := t.t37.enc

theorem cellsT_eq : ∀ l : List Tree, cellsT l = l.flatMap Tree.cells
  | [] => by simp [cellsT]
  | t :: r => by simp [cellsT, cellsT_eq r, Tree.cells]

theorem t37_l (t : Tree) : t.t37.l = sl Tree.cells t.l := by
  cases t; simp [Tree.t37, sl, Tree.l, cellsT_eq]
theorem t37_kind (t : Tree) : t.t37.kind = t.kind := by cases t; simp [Tree.t37, Tree.kind]
theorem t37_ty (t : Tree) : t.t37.ty = t.ty := by cases t; simp [Tree.t37, Tree.ty]
theorem t37_op (t : Tree) : t.t37.op = t.op := by cases t; simp [Tree.t37, Tree.op]
theorem t37_off (t : Tree) : t.t37.off = t.off := by cases t; simp [Tree.t37, Tree.off]
theorem t37_tmp (t : Tree) : t.t37.a_Tmp = t.a.tmp := by cases t; simp [Tree.t37, Tree.a]
theorem t37_aty (t : Tree) : t.t37.a_Ty = t.a.ty := by cases t; simp [Tree.t37, Tree.a]
theorem t37_c0 (t : Tree) : t.t37.a_C0 = t.a.c0 := by cases t; simp [Tree.t37, Tree.a]
theorem t37_c1 (t : Tree) : t.t37.a_C1 = t.a.c1 := by cases t; simp [Tree.t37, Tree.a]
theorem t37_c2 (t : Tree) : t.t37.a_C2 = t.a.c2 := by cases t; simp [Tree.t37, Tree.a]
theorem t37_c3 (t : Tree) : t.t37.a_C3 = t.a.c3 := by cases t; simp [Tree.t37, Tree.a]
theorem Tree.cells_len (t : Tree) : t.cells.length = 11 := by simp [Tree.cells, T37.enc]

/-! Told programs, at values. -/
section
variable {Z : Type}
theorem openInt_v (a : Int) (K : Int → Option Z) : openInt (.v (.int .i64 a)) K = K a := rfl
theorem openBool_v (a : Bool) (K : Bool → Option Z) : openBool (.v (.bool a)) K = K a := rfl
theorem openHd_v (x : SV) (r : List SV) (K : SV → List SV → Option Z) : openHd (x :: r) K = K x r := rfl
theorem openCp37 (a : T37) (K : cd37.α → Option Z) : openCp cd37 (.cp a.enc) K = K a := rfl
theorem openAgg37 (a : T37) (K : cd37.α → Option Z) : openAgg cd37 (.agg a.enc) K = K a := rfl
theorem openCp28 (a : T28) (K : cd28.α → Option Z) : openCp cd28 (.cp a.enc) K = K a := rfl
theorem openAgg28 (a : T28) (K : cd28.α → Option Z) : openAgg cd28 (.agg a.enc) K = K a := rfl
theorem openCp55 (a : T55) (K : cd55.α → Option Z) : openCp cd55 (.cp a.enc) K = K a := rfl
theorem openAgg55 (a : T55) (K : cd55.α → Option Z) : openAgg cd55 (.agg a.enc) K = K a := rfl
theorem openCp57 (a : T57) (K : cd57.α → Option Z) : openCp cd57 (.cp a.enc) K = K a := rfl
theorem openAgg57 (a : T57) (K : cd57.α → Option Z) : openAgg cd57 (.agg a.enc) K = K a := rfl
theorem openCp59 (a : T59) (K : cd59.α → Option Z) : openCp cd59 (.cp a.enc) K = K a := rfl
theorem openAgg59 (a : T59) (K : cd59.α → Option Z) : openAgg cd59 (.agg a.enc) K = K a := rfl
theorem openAgg31 (a : T31) (K : cd31.α → Option Z) : openAgg cd31 (.agg a.enc) K = K a := rfl
theorem openAgg39 (a : T39) (K : cd39.α → Option Z) : openAgg cd39 (.agg a.enc) K = K a := rfl
theorem splitB_t (a b : Option Z) : splitB (.v (.bool true)) a b = a := rfl
theorem splitB_f (a b : Option Z) : splitB (.v (.bool false)) a b = b := rfl
theorem splitB_if (c : Bool) (a b : Option Z) : splitB (.v (.bool c)) a b = if c = true then a else b := by cases c <;> rfl
theorem exits_ret (K : Nat → Option Z) (q : Option Z) : exits .ret K q = q := rfl
theorem exits_exit (i : Nat) (K : Nat → Option Z) (q : Option Z) : exits (.exit i) K q = K i := rfl
end

/-- The program's tables are the seat's. -/
theorem P_kt (f : FuncId) : (kt.at f).P = Tryz.prog := rfl
theorem P_k1 (f : FuncId) : (k1.at f).P = Tryz.prog := rfl

theorem elem_of {k : K} (hP : k.P = Tryz.prog) {t e : TypeId} (h : Tryz.prog.underlying t = some (.slice e)) : elem? k t = some e := by
  unfold elem?; rw [hP, h]
theorem size_of {k : K} (hP : k.P = Tryz.prog) {t n : Nat} (h : (Tryz.prog.info? t).map (·.size) = some n) : size? k t = some n := by
  unfold size?; rw [hP, h]

theorem size37 : (Tryz.prog.info? 37).map (·.size) = some 11 := by kernel_rfl
theorem size28' : (Tryz.prog.info? 28).map (·.size) = some 6 := by kernel_rfl
theorem size3 : (Tryz.prog.info? 3).map (·.size) = some 1 := by kernel_rfl
theorem size57' : (Tryz.prog.info? 57).map (·.size) = some 13 := by kernel_rfl
theorem size59' : (Tryz.prog.info? 59).map (·.size) = some 19 := by kernel_rfl
theorem size108' : (Tryz.prog.info? 108).map (·.size) = some 2 := by kernel_rfl

theorem drop_take_flatMap {α β : Type} (f : α → List β) (sz : Nat) (hf : ∀ x, (f x).length = sz) : ∀ (l : List α) (i : Nat) (h : i < l.length), ((l.flatMap f).drop (i * sz)).take sz = f l[i]
  | x :: r, 0, h => by
    simp only [Nat.zero_mul, List.drop_zero, List.flatMap_cons, List.getElem_cons_zero]
    rw [List.take_append_of_le_length (by rw [hf]; exact Nat.le_refl _), List.take_of_length_le (by rw [hf]; exact Nat.le_refl _)]
  | x :: r, i + 1, h => by
    simp only [List.flatMap_cons, List.getElem_cons_succ]
    have e : (i + 1) * sz = (f x).length + i * sz := by rw [hf, Nat.add_mul]; omega
    rw [e, ← List.drop_drop, List.drop_left]
    exact drop_take_flatMap f sz hf r i (by simpa using h)

theorem flatMap_len {α β : Type} (f : α → List β) (sz : Nat) (hf : ∀ x, (f x).length = sz) (l : List α) : (l.flatMap f).length = l.length * sz := by
  induction l with
  | nil => simp
  | cons x r ih => simp [ih, hf, Nat.add_mul]; omega

theorem index_sl {k : K} {t e sz : Nat} (hP : k.P = Tryz.prog) (ht : Tryz.prog.underlying t = some (.slice e)) (hs : (Tryz.prog.info? e).map (·.size) = some sz) {α : Type} (f : α → List SV) (hf : ∀ x, (f x).length = sz) (l : List α) (i : Nat) (h : i < l.length) (q : IntKind) :
    indexAddrE k t (sl f l) (.v (.int q (i : Int))) = some (.cp (f l[i])) := by
  simp only [indexAddrE, hP, ht, sl, size_of hP hs, Option.bind_some]
  rw [if_pos]
  · simp only [Int.toNat_natCast]
    rw [drop_take_flatMap f sz hf l i h]
  · refine ⟨Int.natCast_nonneg _, by omega, ?_⟩
    rw [flatMap_len f sz hf, Int.toNat_natCast]
    exact Nat.mul_le_mul_right _ h

theorem len_sl {k : K} {t e : Nat} (hP : k.P = Tryz.prog) (ht : Tryz.prog.underlying t = some (.slice e)) {α : Type} (f : α → List SV) (l : List α) : lenE k t (sl f l) = some (.v (.int .i64 (l.length : Int))) := by
  simp [lenE, elem_of hP ht, sl]

/-! Loops. -/
theorem abs_iter {Z : Type} {F0 : List SV → St → Option (Ex × List SV × St)} {M : Nat} {vs : List SV} {S : St} {K : Ex × List SV × St → Option Z} {z : Option Z} (h : ∀ F, F = F0 → (iter F M vs S).bind K = z) : (iter F0 M vs S).bind K = z := h F0 rfl
theorem iter_normal {F : List SV → St → Option (Ex × List SV × St)} {M : Nat} {vs vs' : List SV} {S S' : St} (h : F vs S = some (.normal, vs', S')) : iter F (M + 1) vs S = iter F M vs' S' := by
  simp only [iter, h, Option.bind_some]
theorem iter_exit {F : List SV → St → Option (Ex × List SV × St)} {M : Nat} {vs vs' : List SV} {S S' : St} {i : Nat} (h : F vs S = some (.exit i, vs', S')) : iter F (M + 1) vs S = some (.exit i, vs', S') := by
  simp only [iter, h, Option.bind_some]
theorem iter_ret {F : List SV → St → Option (Ex × List SV × St)} {M : Nat} {vs vs' : List SV} {S S' : St} (h : F vs S = some (.ret, vs', S')) : iter F (M + 1) vs S = some (.ret, vs', S') := by
  simp only [iter, h, Option.bind_some]

/-! Whole numbers that fit. -/
theorem wrap_in {a : Int} (h0 : -9223372036854775808 ≤ a) (h1 : a ≤ 9223372036854775807) : IntKind.wrap .i64 a = a := IntWalk.i64_in a ⟨h0, h1⟩
end Go.Sv
end
section
namespace Go.Sv
open Go Go.Proofs
set_option linter.all false
set_option maxRecDepth 1000000
def h34 : H := { hh with live := fun b => match b with | 0 => [(7, 1), (8, 1)] | _ => [], keep := fun b => match b with | 13 => some [(22, 2)] | _ => none }
theorem tell34 (N : Nat) (u0 : T37) (u1 : Int) (u2 : Int) : cBody (kt.at 34) h34 (run kt) N (compF Tryz.f34) [.agg u0.enc, .v (.int .i64 u1), .v (.int .i64 u2)] St0 = (splitB (.v (.bool (u2 == (0 : Int))))
 ((some ((.v (.int .i64 (IntKind.wrap .i64 (u1 + (1 : Int))))), St0)))
 ((iter (fun vs0 S1 => openHd vs0 fun y2 r3 => openInt y2 fun a4 => openHd r3 fun y5 r6 => openInt y5 fun a7 => ((lenE (kt.at 34) 35 u0.l).bind fun r8 => openInt r8 fun a9 => (splitB (.v (.bool (decide (a7 < a9))))
 ((some [(.v (.bool (decide (a4 ≤ u1))))]))
 ((some [(.v (.bool false))])))).bind fun vs10 => openHd vs10 fun y11 r12 => openBool y11 fun b13 => (splitB (.v (.bool b13))
 ((indexAddrE (kt.at 34) 35 u0.l (.v (.int .i64 a7))).bind fun r14 => openCp cd37 r14 fun t15 => (run kt (.func 34 [] []) [(.agg t15.enc), (.v (.int .i64 (IntKind.wrap .i64 (u1 - a4)))), (.v (.int .i64 (IntKind.wrap .i64 (u2 - (1 : Int)))))] S1).bind fun p16 => openInt p16.1 fun a17 => (some (.normal, ([(.v (.int .i64 (IntKind.wrap .i64 (a4 + a17)))), (.v (.int .i64 (IntKind.wrap .i64 (a7 + (1 : Int)))))], p16.2))))
 ((some ((.exit 0), ([(.v (.int .i64 a4)), (.v (.int .i64 a7))], S1)))))) N [(.v (.int .i64 (1 : Int))), (.v (.int .i64 (0 : Int)))] St0).bind fun q18 => openHd q18.2.1 fun y19 r20 => openInt y19 fun a21 => openHd r20 fun y22 r23 => openInt y22 fun a24 => (exits q18.1 (fun i25 => (if i25 = 0 then (some ((.v (.int .i64 a21)), q18.2.2)) else none)) ((some ((.v (.int .i64 (0 : Int))), q18.2.2)))))) := by kernel_rfl
def h35 : H := { hh with live := fun b => match b with  | _ => [], keep := fun b => match b with  | _ => none }
theorem tell35 (N : Nat) (u0 : T37) : cBody (kt.at 35) h35 (run kt) N (compF Tryz.f35) [.agg u0.enc] St0 = (some ((.v (.bool (u0.kind == (0 : Int)))), St0)) := by kernel_rfl
def h9 : H := { hh with live := fun b => match b with | 0 => [(2, 2), (4, 1), (6, 1)] | _ => [], keep := fun b => match b with | 10 => some [(16, 2)] | 35 => some [(41, 2)] | 55 => some [(2, 2)] | _ => none }
theorem tell9 (N : Nat) (u0 : T37) : cBody (kt.at 9) h9 (run kt) N (compF Tryz.f9) [.agg u0.enc] St0 = (run kt (.func 12 [] []) [] St0).bind fun p0 => openBool p0.1 fun b1 => (splitB (.v (.bool (!b1)))
 ((some ((.v (.bool false)), p0.2)))
 (((run kt (.func 34 [] []) [(.agg u0.enc), (.v (.int .i64 (3000 : Int))), (.v (.int .i64 (60 : Int)))] p0.2).bind fun p2 => openInt p2.1 fun a3 => (splitB (.v (.bool (decide (a3 > (3000 : Int)))))
 ((some [(.v (.bool true))]))
 ((run kt (.func 35 [] []) [(.agg u0.enc)] p2.2).bind fun p4 => openBool p4.1 fun b5 => (some [(.v (.bool b5))])))).bind fun vs6 => openHd vs6 fun y7 r8 => openBool y7 fun b9 => (splitB (.v (.bool b9))
 ((some ((.v (.bool true)), p0.2)))
 ((run kt (.func 36 [] []) [(.agg u0.enc)] p0.2).bind fun p10 => openInt p10.1 fun a11 => storeK (kt.at 9) 37 (.ptr (St.next p10.2) 0) (.agg u0.enc) (St.alloc p10.2 (.cells [(.v (.int .i64 (0 : Int))), (.v (.int .i64 (0 : Int))), (.v (.int .u32 (0 : Int))), (.v (.int .u32 (0 : Int))), (.v (.int .u32 (0 : Int))), (.v (.int .u32 (0 : Int))), (.v (.int .i64 (0 : Int))), (.v (.int .i64 (0 : Int))), (.v (.int .i64 (0 : Int))), (.v (.int .i64 (0 : Int))), (.v (.slice none 0 0))])) fun S12 => storeK (kt.at 9) 35 (.ptr (St.next p10.2) 10) (.v (.slice none 0 0)) S12 fun S13 => (lenE (kt.at 9) 35 u0.l).bind fun r14 => openInt r14 fun a15 => (iter (fun vs16 S17 => openHd vs16 fun y18 r19 => openBool y18 fun b20 => openHd r19 fun y21 r22 => openInt y21 fun a23 => openHd r22 fun y24 r25 => openInt y24 fun a26 => (splitB (.v (.bool (decide (a26 ≥ (0 : Int)))))
 ((indexAddrE (kt.at 9) 35 u0.l (.v (.int .i64 a26))).bind fun r27 => openCp cd37 r27 fun t28 => (run kt (.func 36 [] []) [(.agg t28.enc)] S17).bind fun p29 => openInt p29.1 fun a30 => ((splitB (.v (.bool (decide (a30 > a11))))
 ((some [(.v (.bool true))]))
 ((some [(.v (.bool (decide (a30 < (0 : Int)))))])))).bind fun vs31 => openHd vs31 fun y32 r33 => openBool y32 fun b34 => (splitB (.v (.bool b34))
 ((some (.ret, ([(.v (.bool false)), (.v (.int .i64 a23)), (.v (.int .i64 a26))], p29.2))))
 ((if (St.next p10.2) < (St.next p29.2) then (loadE (kt.at 9) 35 (.ptr (St.next p10.2) 10) p29.2).bind fun r35 => (indexAddrE (kt.at 9) 35 u0.l (.v (.int .i64 a26))).bind fun r36 => openCp cd37 r36 fun t37 => (appendE (kt.at 9) 35 r35 (.sl (some (St.next p29.2)) 1 t37.enc) (St.alloc p29.2 (.own 11 11))).bind fun p38 => storeK (kt.at 9) 35 (.ptr (St.next p10.2) 10) p38.1 p38.2 fun S39 => (if (St.next p29.2) ≤ (St.next S39) then (some (.normal, ([(.v (.bool b20)), (.v (.int .i64 (IntKind.wrap .i64 (a23 + a30)))), (.v (.int .i64 (IntKind.wrap .i64 (a26 - (1 : Int)))))], S39))) else none) else none))))
 ((some ((.exit 0), ([(.v (.bool b20)), (.v (.int .i64 a23)), (.v (.int .i64 a26))], S17)))))) N [(.v (.bool false)), (.v (.int .i64 (0 : Int))), (.v (.int .i64 (IntKind.wrap .i64 (a15 - (1 : Int)))))] S13).bind fun q40 => openHd q40.2.1 fun y41 r42 => openBool y41 fun b43 => openHd r42 fun y44 r45 => openInt y44 fun a46 => openHd r45 fun y47 r48 => openInt y47 fun a49 => (exits q40.1 (fun i50 => (if i50 = 0 then (splitB (.v (.bool (decide (a11 ≥ (1 : Int)))))
 ((splitB (.v (.bool (decide (a11 ≤ (if (1 : Int) > a46 then (1 : Int) else a46)))))
 ((loadE (kt.at 9) 37 (.ptr (St.next p10.2) 0) q40.2.2).bind fun r51 => openAgg cd37 r51 fun t52 => (run kt (.func 36 [] []) [(.agg t52.enc)] q40.2.2).bind fun p53 => openInt p53.1 fun a54 => (some ((.v (.bool (a54 == a11))), p53.2)))
 ((some ((.v (.bool false)), q40.2.2)))))
 ((some ((.v (.bool false)), q40.2.2)))) else none)) ((some ((.v (.bool b43)), q40.2.2)))))))) := by kernel_rfl
def h91k1 : H := { hh with live := fun b => match b with | 0 => [(5, 0), (10, 1)] | _ => [], keep := fun b => match b with  | _ => none }
theorem tell91k1 (N : Nat) (n0 : Nat) (k0 : List SV) (g1 : Nat) (f1 x1 : List SV) (S : St) : cBody (k1.at 91) h91k1 (run k1) N (compF Tryz.f91) [.sl none n0 k0, .func g1 f1 x1] S = (iter (fun vs0 S1 => openHd vs0 fun y2 r3 => openHd r3 fun y4 r5 => openInt y4 fun a6 => (splitB (.v (.bool (decide (a6 < ((n0 : Nat) : Int)))))
 ((indexAddrE (k1.at 91) 35 (.sl none n0 k0) (.v (.int .i64 a6))).bind fun r7 => openCp cd37 r7 fun t8 => storeK (k1.at 91) 37 (.ptr (St.next S1) 0) (.agg t8.enc) (St.alloc S1 (.cells [(.v (.int .i64 (0 : Int))), (.v (.int .i64 (0 : Int))), (.v (.int .u32 (0 : Int))), (.v (.int .u32 (0 : Int))), (.v (.int .u32 (0 : Int))), (.v (.int .u32 (0 : Int))), (.v (.int .i64 (0 : Int))), (.v (.int .i64 (0 : Int))), (.v (.int .i64 (0 : Int))), (.v (.int .i64 (0 : Int))), (.v (.slice none 0 0))])) fun S9 => (loadE (k1.at 91) 37 (.ptr (St.next S1) 0) S9).bind fun r10 => openAgg cd37 r10 fun t11 => (run k1 (.func g1 f1 x1) [(.agg t11.enc)] S9).bind fun p12 => openInt p12.1 fun a13 => (appendE (k1.at 91) 22 y2 (.arr (St.next p12.2) 1) (St.alloc p12.2 (.arr 1 [(.v (.int .i64 a13))]))).bind fun p14 => (some (.normal, ([p14.1, (.v (.int .i64 (IntKind.wrap .i64 (a6 + (1 : Int)))))], p14.2))))
 ((some ((.exit 0), ([y2, (.v (.int .i64 a6))], S1)))))) N [(.v (.slice none 0 0)), (.v (.int .i64 (0 : Int)))] S).bind fun q15 => openHd q15.2.1 fun y16 r17 => openHd r17 fun y18 r19 => openInt y18 fun a20 => (exits q15.1 (fun i21 => (if i21 = 0 then (some (y16, q15.2.2)) else none)) ((some ((.v (.slice none 0 0)), q15.2.2)))) := by kernel_rfl
def h36k1 : H := { hh with live := fun b => match b with | 0 => [(4, 1), (21, 1)] | _ => [], keep := fun b => match b with  | _ => none }
theorem tell36k1 (N : Nat) (u0 : T37) : cBody (k1.at 36) h36k1 (run k1) N (compF Tryz.f36) [.agg u0.enc] St0 = (splitB (.v (.bool (u0.kind == (0 : Int))))
 ((splitB (.v (.bool (decide (u0.a_Tmp < (0 : Int)))))
 ((some ((.v (.int .i64 (0 : Int))), St0)))
 ((some ((.v (.int .i64 (1 : Int))), St0)))))
 ((run k1 (.func 91 [] []) [u0.l, (.func 36 [] [])] St0).bind fun p0 => (run k1 (.func 92 [] []) [p0.1, (.func 93 [] [])] p0.2).bind fun p1 => (lenE (k1.at 36) 22 p0.1).bind fun r2 => openInt r2 fun a3 => (iter (fun vs4 S5 => openHd vs4 fun y6 r7 => openInt y6 fun a8 => openHd r7 fun y9 r10 => openInt y9 fun a11 => (splitB (.v (.bool (decide (a11 < a3))))
 ((indexAddrE (k1.at 36) 22 p0.1 (.v (.int .i64 a11))).bind fun r12 => (loadE (k1.at 36) 3 r12 S5).bind fun r13 => openInt r13 fun a14 => (splitB (.v (.bool (decide (a14 > (0 : Int)))))
 ((some (.normal, ([(.v (.int .i64 (if (IntKind.wrap .i64 (a14 + a11)) > a8 then (IntKind.wrap .i64 (a14 + a11)) else a8))), (.v (.int .i64 (IntKind.wrap .i64 (a11 + (1 : Int)))))], S5))))
 ((some (.normal, ([(.v (.int .i64 a8)), (.v (.int .i64 (IntKind.wrap .i64 (a11 + (1 : Int)))))], S5))))))
 ((some ((.exit 0), ([(.v (.int .i64 a8)), (.v (.int .i64 a11))], S5)))))) N [(.v (.int .i64 (1 : Int))), (.v (.int .i64 (0 : Int)))] p1.2).bind fun q15 => openHd q15.2.1 fun y16 r17 => openInt y16 fun a18 => openHd r17 fun y19 r20 => openInt y19 fun a21 => (exits q15.1 (fun i22 => (if i22 = 0 then (some ((.v (.int .i64 a18)), q15.2.2)) else none)) ((some ((.v (.int .i64 (0 : Int))), q15.2.2)))))) := by kernel_rfl
end Go.Sv
end
section
namespace Go.Sv
open Go Go.Proofs Go.Proofs.YtkflapebfmcmaaaGreat
set_option linter.all false
set_option maxRecDepth 100000

section
variable {P : Tree → Prop}
mutual
theorem Tree.ind (h : ∀ a k ty op off l, (∀ t ∈ l, P t) → P (.mk a k ty op off l)) : ∀ t, P t
  | .mk a k ty op off l => h a k ty op off l (Tree.indL h l)
theorem Tree.indL (h : ∀ a k ty op off l, (∀ t ∈ l, P t) → P (.mk a k ty op off l)) : ∀ (l : List Tree), ∀ t ∈ l, P t
  | [], _, ht => by cases ht
  | x :: r, t, ht => by
    rcases List.mem_cons.1 ht with e | ht
    · rw [e]; exact Tree.ind h x
    · exact Tree.indL h r t ht
end
end

theorem shutL_append (a b : List SV) : shutL (a ++ b) = shutL a ++ shutL b := by simp [shutL_map]
theorem weakL_append (a b : List SV) : weakL (a ++ b) = weakL a ++ weakL b := by simp [weakL_map]

/-- Nothing of a tree hangs on the state. -/
theorem tree_clean : ∀ t : Tree, shutL t.cells = t.cells ∧ weakL t.cells = t.cells := by
  apply Tree.ind
  intro a k ty op off l ih
  have hl : shutL (cellsT l) = cellsT l ∧ weakL (cellsT l) = cellsT l := by
    induction l with
    | nil => simp [cellsT, shutL, weakL]
    | cons t r ihr =>
      have h1 := ih t (by simp)
      have h2 := ihr (fun t ht => ih t (by simp [ht]))
      simp only [cellsT, shutL_append, weakL_append, h2.1, h2.2]
      have := h1.1
      have := h1.2
      unfold Tree.cells at *
      simp_all
  simp [Tree.cells, Tree.t37, T37.enc, shutL, shut, weakL, weak, weakV, hl.1, hl.2]

theorem tree_ws (t : Tree) : weak (shut (.agg t.cells)) = .agg t.cells := by
  simp [shut, weak, (tree_clean t).1, (tree_clean t).2]
theorem int_ws (q : IntKind) (a : Int) : weak (shut (.v (.int q a))) = .v (.int q a) := rfl

theorem fn_kt (f : FuncId) {c : CF} (h : fnsK f = some c) : kt.fns f = some c := h
theorem fn34 : fnsK 34 = some (compF Tryz.f34) := by kernel_rfl
theorem fn35 : fnsK 35 = some (compF Tryz.f35) := by kernel_rfl
theorem ks_kt : KS kt := ks_kk _ _

/-- IsLeaf. -/
theorem leaf_spec (t : Tree) (S : St) : run kt (.func 35 [] []) [.agg t.cells] S = some (.v (.bool (t.kind == 0)), S) := by
  have := go_closed ks_kt (f := 35) (fst := []) (cap := []) (args := [.agg t.cells]) (S := S) h35 0 rfl (fn_kt 35 fn35) rfl (z := (.v (.bool (t.kind == 0)), St0)) (by
    simp only [List.nil_append, List.append_nil, List.map_cons, List.map_nil, tree_ws]
    have := tell35 0 t.t37
    rw [t37_kind] at this
    exact this)
  exact this

mutual
def cntM : Tree → Int → Nat → Int
  | .mk _ _ _ _ _ _, most, 0 => most + 1
  | .mk _ _ _ _ _ l, most, d + 1 => cntL l most d 1
def cntL : List Tree → Int → Nat → Int → Int
  | [], _, _, n => n
  | t :: r, most, d, n => if n ≤ most then cntL r most d (n + cntM t (most - n) d) else n
end

theorem cntL_bound (l : List Tree) (h : ∀ t ∈ l, ∀ most d, 0 ≤ most → 1 ≤ cntM t most d ∧ cntM t most d ≤ most + 1) : ∀ most d n, 0 ≤ most → 1 ≤ n → n ≤ most + 1 → n ≤ cntL l most d n ∧ cntL l most d n ≤ most + 1 := by
  induction l with
  | nil => intro most d n h0 h1 h2; simp [cntL]; omega
  | cons t r ih =>
    intro most d n h0 h1 h2
    rw [cntL]
    split
    · have := h t (by simp) (most - n) d (by omega)
      have := ih (fun t ht => h t (by simp [ht])) most d (n + cntM t (most - n) d) h0 (by omega) (by omega)
      omega
    · omega

theorem cntM_bound : ∀ t most d, 0 ≤ most → 1 ≤ cntM t most d ∧ cntM t most d ≤ most + 1 := by
  apply Tree.ind (P := fun t => ∀ most d, 0 ≤ most → 1 ≤ cntM t most d ∧ cntM t most d ≤ most + 1)
  intro a k ty op off l ih most d h0
  cases d with
  | zero => simp [cntM]; omega
  | succ d =>
    rw [cntM]
    exact cntL_bound l ih most d 1 h0 (by omega) (by omega)

set_option maxHeartbeats 1000000 in
theorem count_spec : ∀ (t : Tree) (most : Int) (d : Nat) (S : St), 0 ≤ most → most ≤ 3000 → d ≤ 60 → run kt (.func 34 [] []) [.agg t.cells, .v (.int .i64 most), .v (.int .i64 (d : Int))] S = some (.v (.int .i64 (cntM t most d)), S) := by
  apply Tree.ind (P := fun t => ∀ (most : Int) (d : Nat) (S : St), 0 ≤ most → most ≤ 3000 → d ≤ 60 → run kt (.func 34 [] []) [.agg t.cells, .v (.int .i64 most), .v (.int .i64 (d : Int))] S = some (.v (.int .i64 (cntM t most d)), S))
  intro a k ty op off l ih most d S h0 h1 h2
  have go := go_closed ks_kt (f := 34) (fst := []) (cap := []) (args := [.agg (Tree.mk a k ty op off l).cells, .v (.int .i64 most), .v (.int .i64 (d : Int))]) (S := S) h34 4000 rfl (fn_kt 34 fn34) rfl (z := (.v (.int .i64 (cntM (.mk a k ty op off l) most d)), St0)) (by
    simp only [List.nil_append, List.append_nil, List.map_cons, List.map_nil, tree_ws, int_ws]
    have e := tell34 4000 (Tree.mk a k ty op off l).t37 most (d : Int)
    unfold Tree.cells
    rw [e]
    clear e
    simp only [splitB_if, t37_l, Tree.l]
    cases d with
    | zero => simp [cntM]; rw [wrap_in (by omega) (by omega)]
    | succ d =>
      rw [if_neg (by simp; omega)]
      refine abs_iter fun F hF => ?_
      have loop : ∀ (suf pre : List Tree), l = pre ++ suf → ∀ (n : Int) (M : Nat), 1 ≤ n → n ≤ most + 1 → (pre.length : Int) < n → most + 1 - n < M → ∃ j : Int,
          iter F M [.v (.int .i64 n), .v (.int .i64 (pre.length : Int))] St0 = some (.exit 0, [.v (.int .i64 (cntL suf most d n)), .v (.int .i64 j)], St0) := by
        intro suf
        induction suf with
        | nil =>
          intro pre hl n M g1 g2 g3 g4
          obtain ⟨M, rfl⟩ : ∃ m, M = m + 1 := ⟨M - 1, by omega⟩
          refine ⟨pre.length, iter_exit ?_⟩
          subst hl
          rw [hF]
          simp only [openHd_v, openInt_v, openBool_v, len_sl (P_kt 34) Tryz.underlying35, Option.bind_some, List.append_nil, cntL]
          simp [openHd_v, openBool_v]
        | cons t r ihs =>
          intro pre hl n M g1 g2 g3 g4
          obtain ⟨M, rfl⟩ : ∃ m, M = m + 1 := ⟨M - 1, by omega⟩
          have hlt : pre.length < l.length := by rw [hl]; simp
          have hget : l[pre.length] = t := by simp [hl]
          have hmem : t ∈ l := by rw [hl]; simp
          rw [cntL]
          by_cases hn : n ≤ most
          · rw [if_pos hn]
            have hb := cntM_bound t (most - n) d (by omega)
            rw [iter_normal (F := F) (vs' := [.v (.int .i64 (n + cntM t (most - n) d)), .v (.int .i64 ((pre.length : Int) + 1))]) (S' := St0) (by
              rw [hF]
              simp only [openHd_v, openInt_v, openBool_v, len_sl (P_kt 34) Tryz.underlying35, Option.bind_some]
              rw [if_pos (by simp; omega)]
              simp only [openHd_v, openBool_v, Option.bind_some]
              rw [if_pos (by simpa using hn), index_sl (P_kt 34) Tryz.underlying35 size37 Tree.cells Tree.cells_len l pre.length hlt, hget]
              simp only [Option.bind_some]
              rw [show openCp cd37 (.cp t.cells) = openCp cd37 (.cp t.t37.enc) from rfl, openCp37]
              rw [wrap_in (a := most - n) (by omega) (by omega), wrap_in (a := ((d + 1 : Nat) : Int) - 1) (by omega) (by omega), show ((d + 1 : Nat) : Int) - 1 = (d : Int) by omega]
              have hi := ih t hmem (most - n) d St0 (by omega) (by omega) (by omega)
              unfold Tree.cells at hi
              rw [hi]
              simp only [Option.bind_some, openInt_v]
              rw [wrap_in (a := n + cntM t (most - n) d) (by omega) (by omega), wrap_in (a := (pre.length : Int) + 1) (by omega) (by omega)])]
            have := ihs (pre ++ [t]) (by rw [hl]; simp) (n + cntM t (most - n) d) M (by omega) (by omega) (by simp; omega) (by omega)
            rw [List.length_append] at this
            exact this
          · rw [if_neg hn]
            refine ⟨pre.length, iter_exit ?_⟩
            rw [hF]
            simp only [openHd_v, openInt_v, openBool_v, len_sl (P_kt 34) Tryz.underlying35, Option.bind_some]
            rw [if_pos (by simp; omega)]
            simp only [openHd_v, openBool_v, Option.bind_some]
            rw [if_neg (by simpa using hn)]
      obtain ⟨j, hj⟩ := loop l [] rfl 1 4000 (by omega) (by omega) (by simp) (by omega)
      have hj' : iter F 4000 [.v (.int .i64 1), .v (.int .i64 0)] St0 = _ := hj
      rw [hj']
      simp only [Option.bind_some, openHd_v, openInt_v, exits_exit, if_true, cntM])
  exact go
end Go.Sv
end
