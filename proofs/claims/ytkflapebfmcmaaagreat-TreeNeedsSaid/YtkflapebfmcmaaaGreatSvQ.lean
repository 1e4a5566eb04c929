/- A part of the proofs of this seat's laws: an interpreter of the program's form, its soundness against the model, or what it answers on this program. -/
/- Comparisons and sums; new boxes; literals. -/
import Derived.Test.YtkflapebfmcmaaaGreatSvP
import Derived.Lib.SliceRun
namespace Go.Sv
open Go Go.RowKit

/-- A function that only makes something new. -/
def Grows (p : List SV → St → Option (SV × St)) : Prop := ∀ args S x S', p args S = some (x, S') → S.next ≤ S'.next ∧ ∀ b, b < S.next → objCells (S'.get b) = objCells (S.get b)

/-- What is asked of the program behind the numbers that the interpreter is handed. -/
structure KS (k : K) : Prop where
  pg : ∀ f, k.pg f = true → ∃ p, k.prim f = some p ∧ Grows p
  mixed : k.P.follows .mixedOrders = true
  fns : ∀ f c, k.fns f = some c → ∃ fn body, k.P.funcs[f]? = some fn ∧ compF fn = c ∧ fn.body = some body ∧ (fn.name == "runtime.NumGoroutine") = false ∧ wfC c.nt c.body = true ∧ c.nt ≤ 1000000
  eqT : ∀ t sh, k.eqT t = some sh → k.P.eqGuardType k.P.depth t = false ∧ ∀ (as bs : List Int) (w : World), as.length = sh.length → bs.length = sh.length → (Op.equal t (.agg (mkInts sh as).toArray) (.agg (mkInts sh bs).toArray)).run k.P w = .ok (as == bs) w

section
variable {w0 : World} {g : Gh} {S : St} {w : World} {k : K}

theorem intBin_run {op : BinOp} {q : IntKind} {a b : Int} {r : Value} {t : TypeId} (h : intBin op q a b = some r) (hs : op ≠ .shl) (hs' : op ≠ .shr) : (binOp op t (.int q a) (.int q b)).run k.P w = .ok r w := by
  cases op <;> simp_all [intBin, binOp, Op.intArith, Op.intDiv, Op.intCmp]
  all_goals
    obtain ⟨h1, rfl⟩ := h
    simp [h1]

theorem guard_int {op : BinOp} {t : TypeId} {x y : Operand} {q q' : IntKind} {a b : Int} : (eqGuard op t x y (.int q a) (.int q' b)).run k.P w = .ok () w := by
  unfold eqGuard
  cases op <;> simp

theorem eqCells_ints : ∀ (sh : List IntKind) (cs ds : List SV) (r : Bool), eqCells sh cs ds = some r → ∃ as bs : List Int, as.length = sh.length ∧ bs.length = sh.length ∧ cs = (mkInts sh as).map .v ∧ ds = (mkInts sh bs).map .v ∧ r = (as == bs)
  | [], [], [], r, h => ⟨[], [], rfl, rfl, rfl, rfl, by simpa [eqCells] using h.symm⟩
  | q :: sh, .v (.int q1 a) :: r, .v (.int q2 b) :: s, t, h => by
    simp only [eqCells] at h
    split at h
    · rename_i hq
      obtain ⟨rfl, rfl⟩ := hq
      simp only [Option.map_eq_some_iff] at h
      obtain ⟨t', ht, rfl⟩ := h
      obtain ⟨as, bs, h1, h2, h3, h4, h5⟩ := eqCells_ints sh r s t' ht
      refine ⟨a :: as, b :: bs, by simp [h1], by simp [h2], by simp [mkInts, h3], by simp [mkInts, h4], ?_⟩
      rw [h5]; rfl
    · cases h

theorem R_v {u v : Value} (h : R g w u (.v v)) : u = v := by cases h; rfl

theorem getD_list (a : Array Value) (i : Nat) : a.getD i undef = a.toList.getD i undef := by
  by_cases hj : i < a.size <;> simp [Array.getD, hj, List.getD]

theorem agg_scalars {u : Value} {vs : List Value} (h : R g w u (.agg (vs.map .v))) : u = .agg vs.toArray := by
  cases h with
  | agg cs cs' h1 h2 h3 =>
    congr 1
    apply Array.ext'
    apply List.ext_getElem
    · simpa using h1
    · intro i hi hi'
      have := R_v (h3 i (.v vs[i]) (by simp at hi'; simp [hi']))
      rw [getD_list] at this
      simp only [List.getD, List.getElem?_eq_getElem hi, Option.getD_some] at this
      simpa using this

theorem guard_slice {op : BinOp} {t : TypeId} {x y : Operand} {a a' : Option Addr} {n c n' c' : Nat} : (eqGuard op t x y (.slice a n c) (.slice a' n' c')).run k.P w = .ok () w := by
  unfold eqGuard
  cases op <;> simp

theorem bin_sound (hk : KS k) {op : BinOp} {t : TypeId} {xo yo : Operand} {u v : Value} {x y z : SV} (hx : R g w u x) (hy : R g w v y) (h : binE k op t x y = some z) :
    ∃ r, (do eqGuard op t xo yo u v; binOp op t u v : Sem Value).run k.P w = .ok r w ∧ R g w r z := by
  unfold binE at h
  split at h
  · rename_i q a q' b
    cases hx; cases hy
    split at h
    · simp only [Option.map_eq_some_iff] at h
      obtain ⟨r, hr, rfl⟩ := h
      refine ⟨r, ?_, .v r⟩
      simp only [Sem.run_bind, guard_int, Result.andThen_ok]
      unfold shrE at hr
      split at hr
      · cases hr
      · rename_i hb
        injection hr with hr
        subst hr
        simp [binOp, Op.shift, hb]
    · cases h
    · split at h
      · rename_i h1 h2 hq
        subst hq
        simp only [Option.map_eq_some_iff] at h
        obtain ⟨r, hr, rfl⟩ := h
        refine ⟨r, ?_, .v r⟩
        simp only [Sem.run_bind, guard_int, Result.andThen_ok]
        exact intBin_run hr h2 h1
      · cases h
  · rename_i cs ds
    simp only [Option.bind_eq_some_iff] at h
    obtain ⟨sh, hsh, b, hb, h⟩ := h
    obtain ⟨as, bs, l1, l2, rfl, rfl, rfl⟩ := eqCells_ints sh cs ds b hb
    obtain rfl := agg_scalars hx
    obtain rfl := agg_scalars hy
    obtain ⟨hg, he⟩ := hk.eqT t sh hsh
    have he := he as bs w l1 l2
    have hgd : (eqGuard op t xo yo (.agg (mkInts sh as).toArray) (.agg (mkInts sh bs).toArray)).run k.P w = .ok () w := by
      unfold eqGuard
      cases op <;> simp [hg]
    split at h
    · injection h with h; subst h
      exact ⟨_, by simp only [Sem.run_bind, hgd, Result.andThen_ok]; simp [binOp, he], .v _⟩
    · injection h with h; subst h
      exact ⟨_, by simp only [Sem.run_bind, hgd, Result.andThen_ok]; simp [binOp, he], .v _⟩
    · cases h
  · cases hx; cases hy
    split at h
    · rename_i he
      obtain ⟨e, he⟩ := Option.isSome_iff_exists.1 he
      have hu := elem_some he
      split at h
      · injection h with h; subst h
        exact ⟨_, by simp only [Sem.run_bind, guard_slice, Result.andThen_ok]; exact Lib.run_eql_slice_nil w _ _ _ _ _ _ _ hu, .v _⟩
      · cases h
    · cases h
  · cases hx; cases hy
    split at h
    · rename_i he
      obtain ⟨e, he⟩ := Option.isSome_iff_exists.1 he
      have hu := elem_some he
      split at h
      · injection h with h; subst h
        exact ⟨_, by simp only [Sem.run_bind, guard_slice, Result.andThen_ok]; exact Lib.run_eql_slice_nil w _ _ _ _ _ _ _ hu, .v _⟩
      · cases h
    · cases h
  · cases hy
    split at h
    · rename_i he
      obtain ⟨he, hn0⟩ := he
      obtain ⟨e, he⟩ := Option.isSome_iff_exists.1 he
      have hu := elem_some he
      split at h
      · injection h with h; subst h
        cases hx <;> first | exact (hn0 rfl).elim | exact ⟨_, by simp only [Sem.run_bind, guard_slice, Result.andThen_ok]; exact Lib.run_eql_slice_nil w _ _ _ _ _ _ _ hu, .v _⟩
      · cases h
    · cases h
  · cases hy
    split at h
    · rename_i he
      obtain ⟨e, he⟩ := Option.isSome_iff_exists.1 he
      have hu := elem_some he
      split at h
      · injection h with h; subst h
        cases hx; exact ⟨_, by simp only [Sem.run_bind, guard_slice, Result.andThen_ok]; exact Lib.run_eql_slice_nil w _ _ _ _ _ _ _ hu, .v _⟩
      · cases h
    · cases h
  · cases h
end
end Go.Sv
