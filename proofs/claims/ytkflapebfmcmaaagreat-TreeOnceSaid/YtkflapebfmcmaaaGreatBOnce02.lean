/- Parts of the proofs of this seat's laws. -/
import Derived.Laws.NewBlocks
import Derived.Lib.SliceRun
import Derived.Great.BuildSlice
import Derived.Test.YtkflapebfmcmaaaGreatBOnce01
section
set_option linter.all false
/- Operations on values; new boxes; slices; maps. -/
namespace Go.Sv
open Go Go.RowKit

def mkInts (sh : List IntKind) (as : List Int) : List Value := (sh.zip as).map fun p => .int p.1 p.2

section
variable {w0 : World} {g : Gh} {S : St} {w : World} {k : K}

theorem field_sound {t : TypeId} {i : Nat} {u : Value} {x y : SV} (hx : R g w u x) (h : fieldAddrE k t x i = some y) : ∃ v, (Instr.fieldAt t u i).run k.P w = .ok v w ∧ R g w v y := by
  unfold fieldAddrE at h
  split at h
  · rename_i fs hu
    split at h
    · rename_i f hf
      simp only [Option.bind_eq_some_iff] at h
      obtain ⟨sz, hsz, h⟩ := h
      split at h
      · cases h
      rename_i hz
      cases hx with
      | ptr b off hb =>
        simp only [Option.some.injEq] at h; subst h
        refine ⟨.pointer (some ⟨g.box b, off + f.offset, none⟩), ?_, .ptr b _ hb⟩
        simp [Instr.fieldAt, run_underlying hu, hf, Instr.sureAddr, fieldPlace, run_size hsz, hz, add_none]
      | cp B o cs F hc hR =>
        simp only [Option.some.injEq] at h; subst h
        refine ⟨.pointer (some ⟨B, o + f.offset, none⟩), ?_, .cp B _ _ (fun j => F (f.offset + j)) (fun j hj => ?_) (fun j c hj => ?_)⟩
        · simp [Instr.fieldAt, run_underlying hu, hf, Instr.sureAddr, fieldPlace, run_size hsz, hz, add_none]
        · have hj' : f.offset + j < cs.length := by simp at hj; omega
          have := hc (f.offset + j) hj'
          rwa [← Nat.add_assoc] at this
        · exact hR _ c (by rwa [List.getElem?_drop] at hj)
      | _ => cases h
    · cases h
  · cases h

theorem Cont.cut {B o n : Nat} {f : Nat → Value} (h : Cont g w B o n f) (m l : Nat) (hl : m + l ≤ n) : Cont g w B (o + m) l (fun j => f (m + j)) := fun j hj => by
  have := h (m + j) (by omega)
  rwa [← Nat.add_assoc] at this

theorem indexAddr_sound {t : TypeId} {u v : Value} {x i y : SV} (hx : R g w u x) (hi : R g w v i) (h : indexAddrE k t x i = some y) : ∃ r, (Instr.indexAt t u v).run k.P w = .ok r w ∧ R g w r y := by
  unfold indexAddrE at h
  split at h
  · rename_i q j
    cases hi
    split at h
    · rename_i e hu
      simp only [Option.bind_eq_some_iff] at h
      obtain ⟨sz, hsz, h⟩ := h
      have sl : ∀ (B o n c : Nat) (cs : List SV) (F : Nat → Value), Cont g w B o cs.length F → (∀ i c, cs[i]? = some c → R g w (F i) c) → 0 ≤ j ∧ j < n ∧ (j.toNat + 1) * sz ≤ cs.length →
          ∃ r, (Instr.indexAt t (.slice (some ⟨B, o, none⟩) n c) (.int q j)).run k.P w = .ok r w ∧ R g w r (.cp ((cs.drop (j.toNat * sz)).take sz)) := by
        intro B o n c cs F hc hR ⟨h0, h1, h2⟩
        have h3 : j.toNat * sz + sz ≤ cs.length := by rw [Nat.add_mul] at h2; omega
        refine ⟨.pointer (some ⟨B, o + j.toNat * sz, none⟩), ?_, .cp B _ _ (fun m => F (j.toNat * sz + m)) ?_ (fun m c hm => ?_)⟩
        · simp [Instr.indexAt, run_underlying hu, asIntOf, h0, h1, run_size hsz, add_none]
        · have hl : ((cs.drop (j.toNat * sz)).take sz).length = sz := by simp; omega
          rw [hl]; exact hc.cut _ _ h3
        · rw [List.getElem?_take] at hm
          split at hm
          · exact hR _ c (by rwa [List.getElem?_drop] at hm)
          · cases hm
      cases hx with
      | sl B o n c cs F hc hR hn =>
        try simp only [] at h
        split at h
        · rename_i hcond; simp only [Option.some.injEq] at h; subst h; exact sl B o n c cs F hc hR hcond
        · cases h
      | own b n cs F hb hc hR hn =>
        try simp only [] at h
        split at h
        · rename_i hcond; simp only [Option.some.injEq] at h; subst h; exact sl _ 0 n _ cs F hc hR hcond
        · cases h
      | arr b n hb hn =>
        try simp only [] at h
        split at h
        · rename_i hcond
          obtain ⟨h0, h1⟩ := hcond
          simp only [Option.some.injEq] at h; subst h
          refine ⟨.pointer (some ⟨g.box b, j.toNat * sz, none⟩), ?_, .ptr b _ hb⟩
          simp [Instr.indexAt, run_underlying hu, asIntOf, h0, h1, run_size hsz, add_none]
        · cases h
      | nil =>
        simp only [] at h
        split at h
        · rename_i hcond; omega
        · cases h
      | slz a c =>
        simp only [] at h
        split at h
        · rename_i hcond; omega
        · cases h
      | _ => cases h
    · rename_i n e hu
      simp only [Option.bind_eq_some_iff] at h
      obtain ⟨sz, hsz, h⟩ := h
      cases hx with
      | ptr b off hb =>
        try simp only [] at h
        split at h
        · rename_i hcond
          obtain ⟨h0, h1⟩ := hcond
          simp only [Option.some.injEq] at h; subst h
          refine ⟨.pointer (some ⟨g.box b, off + j.toNat * sz, none⟩), ?_, .ptr b _ hb⟩
          simp [Instr.indexAt, run_underlying hu, asIntOf, h0, h1, run_size hsz, add_none, Instr.sureAddr]
        · cases h
      | cp B o cs F hc hR =>
        try simp only [] at h
        split at h
        · rename_i hcond
          obtain ⟨h0, h1⟩ := hcond
          simp only [Option.some.injEq] at h; subst h
          refine ⟨.pointer (some ⟨B, o + j.toNat * sz, none⟩), ?_, .cp B _ _ (fun m => F (j.toNat * sz + m)) ?_ (fun m c hm => ?_)⟩
          · simp [Instr.indexAt, run_underlying hu, asIntOf, h0, h1, run_size hsz, add_none, Instr.sureAddr]
          · by_cases hl : j.toNat * sz ≤ cs.length
            · exact hc.cut _ _ (by simp; omega)
            · intro m hm; simp at hm; omega
          · exact hR _ c (by rwa [List.getElem?_drop] at hm)
        · cases h
      | _ => cases h
    · cases h
  · cases h

theorem len_sound {t ty : TypeId} {u : Value} {x y : SV} (hx : R g w u x) (h : lenE k t x = some y) : ∃ r, (Builtin.len_ #[t] ty #[u]).run k.P w = .ok r w ∧ R g w r y := by
  simp only [lenE, Option.bind_eq_some_iff] at h
  obtain ⟨e, he, h⟩ := h
  have hu := elem_some he
  split at h
  · injection h with h; cases hx; subst h; exact ⟨_, by simp [Builtin.len_, run_underlying hu]; rfl, .v _⟩
  · injection h with h; subst h; cases hx <;> exact ⟨_, by simp [Builtin.len_, run_underlying hu]; rfl, .v _⟩
  · injection h with h; subst h; cases hx; exact ⟨_, by simp [Builtin.len_, run_underlying hu]; rfl, .v _⟩
  · injection h with h; subst h; cases hx <;> exact ⟨_, by simp [Builtin.len_, run_underlying hu]; rfl, .v _⟩
  · cases h

theorem max_sound {ts : Array TypeId} {ty : TypeId} {u v : Value} {x y z : SV} (hx : R g w u x) (hy : R g w v y) (h : maxE x y = some z) : ∃ r, (Builtin.max_ ts ty #[u, v]).run k.P w = .ok r w ∧ R g w r z := by
  unfold maxE at h
  split at h
  · cases hx; cases hy
    split at h
    · simp only [Option.some.injEq] at h; subst h
      exact ⟨_, run_max_int2 w _ _ _ _ _ _, .v _⟩
    · cases h
  · cases h
end
end Go.Sv
end
section
set_option linter.all false
/- Comparisons and sums; new boxes; literals. -/
namespace Go.Sv
open Go Go.RowKit

/-- A function that only makes something new. -/
def Grows (p : List SV → St → Option (SV × St)) : Prop := ∀ args S x S', p args S = some (x, S') → S.next ≤ S'.next ∧ ∀ b, b < S.next → objCells (S'.get b) = objCells (S.get b)

/-- What is asked of the program behind the numbers that the interpreter is handed. -/
structure KS (k : K) : Prop where
  pg : ∀ f, k.pg f = true → ∃ p, k.prim f = some p ∧ Grows p
  mixed : k.P.follows .mixedOrders = true
  fns : ∀ f c, k.fns f = some c → ∃ fn body, k.P.funcs[f]? = some fn ∧ compF fn = c ∧ fn.body = some body ∧ (fn.name == "runtime.NumGoroutine") = false ∧ wfC c.nt c.body = true ∧ c.nt ≤ 1000000
  eqT : ∀ t sh, k.eqT t = some sh → k.P.eqGuardType k.P.depth t = false ∧ ∀ (as bs : List Int) (w : World), as.length = sh.length → bs.length = sh.length → (Op.equal t (.agg (mkInts sh as).toArray) (.agg (mkInts sh bs).toArray)).run k.P w = .ok (as == bs) w

section
variable {w0 : World} {g : Gh} {S : St} {w : World} {k : K}

theorem intBin_run {op : BinOp} {q : IntKind} {a b : Int} {r : Value} {t : TypeId} (h : intBin op q a b = some r) (hs : op ≠ .shl) (hs' : op ≠ .shr) : (binOp op t (.int q a) (.int q b)).run k.P w = .ok r w := by
  cases op <;> simp_all [intBin, binOp, Op.intArith, Op.intDiv, Op.intCmp]
  all_goals
    obtain ⟨h1, rfl⟩ := h
    simp [h1]

theorem guard_int {op : BinOp} {t : TypeId} {x y : Operand} {q q' : IntKind} {a b : Int} : (eqGuard op t x y (.int q a) (.int q' b)).run k.P w = .ok () w := by
  unfold eqGuard
  cases op <;> simp

theorem eqCells_ints : ∀ (sh : List IntKind) (cs ds : List SV) (r : Bool), eqCells sh cs ds = some r → ∃ as bs : List Int, as.length = sh.length ∧ bs.length = sh.length ∧ cs = (mkInts sh as).map .v ∧ ds = (mkInts sh bs).map .v ∧ r = (as == bs)
  | [], [], [], r, h => ⟨[], [], rfl, rfl, rfl, rfl, by simpa [eqCells] using h.symm⟩
  | q :: sh, .v (.int q1 a) :: r, .v (.int q2 b) :: s, t, h => by
    simp only [eqCells] at h
    split at h
    · rename_i hq
      obtain ⟨rfl, rfl⟩ := hq
      simp only [Option.map_eq_some_iff] at h
      obtain ⟨t', ht, rfl⟩ := h
      obtain ⟨as, bs, h1, h2, h3, h4, h5⟩ := eqCells_ints sh r s t' ht
      refine ⟨a :: as, b :: bs, by simp [h1], by simp [h2], by simp [mkInts, h3], by simp [mkInts, h4], ?_⟩
      rw [h5]; rfl
    · cases h

theorem R_v {u v : Value} (h : R g w u (.v v)) : u = v := by cases h; rfl

theorem getD_list (a : Array Value) (i : Nat) : a.getD i undef = a.toList.getD i undef := by
  by_cases hj : i < a.size <;> simp [Array.getD, hj, List.getD]

theorem agg_scalars {u : Value} {vs : List Value} (h : R g w u (.agg (vs.map .v))) : u = .agg vs.toArray := by
  cases h with
  | agg cs cs' h1 h2 h3 =>
    congr 1
    apply Array.ext'
    apply List.ext_getElem
    · simpa using h1
    · intro i hi hi'
      have := R_v (h3 i (.v vs[i]) (by simp at hi'; simp [hi']))
      rw [getD_list] at this
      simp only [List.getD, List.getElem?_eq_getElem hi, Option.getD_some] at this
      simpa using this

theorem guard_slice {op : BinOp} {t : TypeId} {x y : Operand} {a a' : Option Addr} {n c n' c' : Nat} : (eqGuard op t x y (.slice a n c) (.slice a' n' c')).run k.P w = .ok () w := by
  unfold eqGuard
  cases op <;> simp

theorem bin_sound (hk : KS k) {op : BinOp} {t : TypeId} {xo yo : Operand} {u v : Value} {x y z : SV} (hx : R g w u x) (hy : R g w v y) (h : binE k op t x y = some z) :
    ∃ r, (do eqGuard op t xo yo u v; binOp op t u v : Sem Value).run k.P w = .ok r w ∧ R g w r z := by
  unfold binE at h
  split at h
  · rename_i q a q' b
    cases hx; cases hy
    split at h
    · simp only [Option.map_eq_some_iff] at h
      obtain ⟨r, hr, rfl⟩ := h
      refine ⟨r, ?_, .v r⟩
      simp only [Sem.run_bind, guard_int, Result.andThen_ok]
      unfold shrE at hr
      split at hr
      · cases hr
      · rename_i hb
        injection hr with hr
        subst hr
        simp [binOp, Op.shift, hb]
    · cases h
    · split at h
      · rename_i h1 h2 hq
        subst hq
        simp only [Option.map_eq_some_iff] at h
        obtain ⟨r, hr, rfl⟩ := h
        refine ⟨r, ?_, .v r⟩
        simp only [Sem.run_bind, guard_int, Result.andThen_ok]
        exact intBin_run hr h2 h1
      · cases h
  · rename_i cs ds
    simp only [Option.bind_eq_some_iff] at h
    obtain ⟨sh, hsh, b, hb, h⟩ := h
    obtain ⟨as, bs, l1, l2, rfl, rfl, rfl⟩ := eqCells_ints sh cs ds b hb
    obtain rfl := agg_scalars hx
    obtain rfl := agg_scalars hy
    obtain ⟨hg, he⟩ := hk.eqT t sh hsh
    have he := he as bs w l1 l2
    have hgd : (eqGuard op t xo yo (.agg (mkInts sh as).toArray) (.agg (mkInts sh bs).toArray)).run k.P w = .ok () w := by
      unfold eqGuard
      cases op <;> simp [hg]
    split at h
    · injection h with h; subst h
      exact ⟨_, by simp only [Sem.run_bind, hgd, Result.andThen_ok]; simp [binOp, he], .v _⟩
    · injection h with h; subst h
      exact ⟨_, by simp only [Sem.run_bind, hgd, Result.andThen_ok]; simp [binOp, he], .v _⟩
    · cases h
  · cases hx; cases hy
    split at h
    · rename_i he
      obtain ⟨e, he⟩ := Option.isSome_iff_exists.1 he
      have hu := elem_some he
      split at h
      · injection h with h; subst h
        exact ⟨_, by simp only [Sem.run_bind, guard_slice, Result.andThen_ok]; exact Lib.run_eql_slice_nil w _ _ _ _ _ _ _ hu, .v _⟩
      · cases h
    · cases h
  · cases hx; cases hy
    split at h
    · rename_i he
      obtain ⟨e, he⟩ := Option.isSome_iff_exists.1 he
      have hu := elem_some he
      split at h
      · injection h with h; subst h
        exact ⟨_, by simp only [Sem.run_bind, guard_slice, Result.andThen_ok]; exact Lib.run_eql_slice_nil w _ _ _ _ _ _ _ hu, .v _⟩
      · cases h
    · cases h
  · cases hy
    split at h
    · rename_i he
      obtain ⟨he, hn0⟩ := he
      obtain ⟨e, he⟩ := Option.isSome_iff_exists.1 he
      have hu := elem_some he
      split at h
      · injection h with h; subst h
        cases hx <;> first | exact (hn0 rfl).elim | exact ⟨_, by simp only [Sem.run_bind, guard_slice, Result.andThen_ok]; exact Lib.run_eql_slice_nil w _ _ _ _ _ _ _ hu, .v _⟩
      · cases h
    · cases h
  · cases hy
    split at h
    · rename_i he
      obtain ⟨e, he⟩ := Option.isSome_iff_exists.1 he
      have hu := elem_some he
      split at h
      · injection h with h; subst h
        cases hx; exact ⟨_, by simp only [Sem.run_bind, guard_slice, Result.andThen_ok]; exact Lib.run_eql_slice_nil w _ _ _ _ _ _ _ hu, .v _⟩
      · cases h
    · cases h
  · cases h
end
end Go.Sv
end
section
set_option linter.all false
/- New boxes and literals. -/
namespace Go.Sv
open Go Go.RowKit

section
variable {w0 : World} {g : Gh} {S : St} {w : World} {k : K}

theorem scal_cells (g : Gh) (w : World) (a : Array Value) (h : ∀ c ∈ a.toList, flatV c = true) : Cs g w a (a.toList.map .v) := by
  intro i c hi
  simp only [List.getElem?_map, Option.map_eq_some_iff] at hi
  obtain ⟨x, hx, rfl⟩ := hi
  have e : a.getD i undef = x := by rw [getD_list]; simp [List.getD, hx]
  rw [e]
  exact ⟨.v x, h x (List.mem_of_getElem? hx)⟩

theorem fold_put (off : Nat) : ∀ (vs : List Value) (j : Nat) (a : Array Value), off + j + vs.length ≤ a.size →
    (vs.zipIdx j).foldl (fun cs x => cs.setIfInBounds (off + x.2) x.1) a = rowPut a (off + j) vs
  | [], j, a, _ => by simp [rowPut]
  | v :: r, j, a, h => by
    have hl : off + j < a.size := by simp at h; omega
    simp only [List.zipIdx_cons, List.foldl_cons]
    rw [fold_put off r (j + 1) _ (by simp at h ⊢; omega)]
    have e := list_seg_step a.toList (off + j) v r (by simp at h ⊢; omega)
    simp only [rowPut, Array.toList_setIfInBounds]
    simpa [Nat.add_assoc] using congrArg List.toArray e

theorem fill_sound {pl : Nat → Option (Nat × Nat)} : ∀ (ps : List (Nat × SV)) (vs : List (Nat × Value)) (cs cs' : List SV) (a : Array Value), vs.length = ps.length → (∀ (i : Nat) (p : Nat × SV), ps[i]? = some p → ∃ u, vs[i]? = some (p.1, u) ∧ R g w u p.2) →
    Cs g w a cs → a.size = cs.length → fillC pl ps cs = some cs' → ∃ a', Instr.fill pl a vs = some a' ∧ a'.size = cs'.length ∧ Cs g w a' cs' ∧ cs'.length = cs.length
  | [], [], cs, cs', a, _, _, hC, ha, h => by
    simp only [fillC, Option.some.injEq] at h; subst h
    exact ⟨a, rfl, ha, hC, rfl⟩
  | (i, x) :: ps, [], cs, cs', a, hl, _, _, _, _ => by simp at hl
  | [], _ :: _, cs, cs', a, hl, _, _, _, _ => by simp at hl
  | (i, x) :: ps, (i', u) :: vs, cs, cs', a, hl, hR, hC, ha, h => by
    simp only [fillC, Option.bind_eq_some_iff] at h
    obtain ⟨⟨o, s⟩, hp, ys, hys, h⟩ := h
    split at h
    · rename_i hc
      obtain ⟨h1, h2⟩ := hc
      obtain ⟨u', hu, hRu⟩ := hR 0 (i, x) rfl
      simp only [List.getElem?_cons_zero, Option.some.injEq, Prod.mk.injEq] at hu
      obtain ⟨rfl, rfl⟩ := hu
      obtain ⟨hn, hCy⟩ := cells_sound hRu hys
      simp only [] at h1 h2
      have hstep := fill_sound ps vs (splice cs o ys) cs' (rowPut a o u.cells.toList) (by simpa using hl) (fun j p hj => by simpa using hR (j + 1) p (by simpa using hj))
        (hC.put hCy hn h2 (by omega)) (by rw [rowPut_size _ _ _ (by simp; omega), splice_length _ _ _ h2, ha]) h
      obtain ⟨a', h3, h4, h5, h6⟩ := hstep
      refine ⟨a', ?_, h4, h5, by rw [h6, splice_length _ _ _ h2]⟩
      have hf := fold_put o u.cells.toList 0 a (by simp; omega)
      simp only [Nat.add_zero] at hf
      have hf' : (u.cells.zipIdx.foldl (fun cs x => cs.setIfInBounds (o + x.2) x.1) a) = rowPut a o u.cells.toList := by
        rw [← hf, ← Array.foldl_toList, Array.toList_zipIdx]
      simp only [Instr.fill, hp]
      rw [if_neg (by simp; omega)]
      rw [← h3]
      congr 1
    · cases h

theorem new_cells (hG : G w0 g S w) {cs : List SV} {a : Array Value} (T : TypeId) (hC : Cs g w a cs) (ha : a.size = cs.length) :
    ∃ g', R g' (w.alloc (.cells a T)) (.pointer (some ⟨w.heap.size, 0, none⟩)) (.ptr S.next 0) ∧ G w0 g' (S.alloc (.cells cs)) (w.alloc (.cells a T)) ∧ Tr S g w (S.alloc (.cells cs)) g' (w.alloc (.cells a T)) := by
  have hO : ObjR (g.add w.heap.size 0 0) (w.alloc (.cells a T)) g.n (.cells cs) := by
    have hext : Ext g w (g.add w.heap.size 0 0) (w.alloc (.cells a T)) := by
      refine ⟨rfl, Nat.le_succ _, fun b hb => add_box_old g _ _ _ hb, fun b hb => add_cap_old g _ _ _ hb, fun X => ?_, fun X i hX => cell_block (heap_alloc_old w _ X (hG.use_lt hX))⟩
      show g.use X ≤ if X = w.heap.size then 0 else g.use X
      split
      · subst X; rw [hG.fresh _ (Nat.le_refl _)]; exact Nat.le_refl _
      · exact Nat.le_refl _
    exact ⟨a, T, by rw [add_box]; exact heap_alloc_new w _, ha, hC.ext hext, by rw [add_box, add_use]⟩
  obtain ⟨h1, h2⟩ := hG.alloc (.cells a T) 0 0 (.cells cs) hO
  refine ⟨_, ?_, h1, h2⟩
  have := R.ptr (g := g.add w.heap.size 0 0) (w := w.alloc (.cells a T)) g.n 0 (Nat.lt_succ_self g.n)
  rwa [add_box, hG.n] at this

/-- A new slice, in a box or apart. -/
theorem new_slice (hG : G w0 g S w) {cs : List SV} {a : Array Value} (T : TypeId) (n c sz : Nat) (hC : Cs g w a cs) (hl : cs.length ≤ a.size) (hc : a.size = c * sz) (hn : n ≤ c) (hb : Bool) :
    ∃ g', R g' (w.alloc (.cells a T)) (.slice (some ⟨w.heap.size, 0, none⟩) n c) (if hb then .arr S.next n else .sl (some S.next) n cs) ∧ G w0 g' (S.alloc (if hb then .arr sz cs else .own sz cs.length)) (w.alloc (.cells a T)) ∧
      Tr S g w (S.alloc (if hb then .arr sz cs else .own sz cs.length)) g' (w.alloc (.cells a T)) := by
  have h0 := hG.fresh w.heap.size (Nat.le_refl _)
  have hext : ∀ u, Ext g w (g.add w.heap.size c u) (w.alloc (.cells a T)) := by
    intro u
    refine ⟨rfl, Nat.le_succ _, fun b hb => add_box_old g _ _ _ hb, fun b hb => add_cap_old g _ _ _ hb, fun X => ?_, fun X i hX => cell_block (heap_alloc_old w _ X (hG.use_lt hX))⟩
    show g.use X ≤ if X = w.heap.size then u else g.use X
    split
    · subst X; rw [h0]; exact Nat.zero_le _
    · exact Nat.le_refl _
  cases hb with
  | true =>
    simp only [if_true]
    have hO : ObjR (g.add w.heap.size c 0) (w.alloc (.cells a T)) g.n (.arr sz cs) :=
      ⟨a, T, by rw [add_box]; exact heap_alloc_new w _, by rw [add_cap]; exact hc, hl, hC.ext (hext 0), by rw [add_box, add_use]⟩
    obtain ⟨h1, h2⟩ := hG.alloc (.cells a T) c 0 _ hO
    refine ⟨_, ?_, h1, h2⟩
    have := R.arr (g := g.add w.heap.size c 0) (w := w.alloc (.cells a T)) g.n n (Nat.lt_succ_self g.n) (by rw [add_cap]; exact hn)
    rwa [add_box, add_cap, hG.n] at this
  | false =>
    simp only [Bool.false_eq_true, if_false]
    have hO : ObjR (g.add w.heap.size c cs.length) (w.alloc (.cells a T)) g.n (.own sz cs.length) :=
      ⟨a, T, by rw [add_box]; exact heap_alloc_new w _, by rw [add_cap]; exact hc, hl, by rw [add_box, add_use]⟩
    obtain ⟨h1, h2⟩ := hG.alloc (.cells a T) c cs.length _ hO
    refine ⟨_, ?_, h1, h2⟩
    have hC' := hC.ext (hext cs.length)
    have := R.own (g := g.add w.heap.size c cs.length) (w := w.alloc (.cells a T)) g.n n cs (fun i => a.getD i undef) (Nat.lt_succ_self g.n) ?_ (fun i x hi => (hC' i x hi).1) (by rw [add_cap]; exact hn)
    · rwa [add_box, add_cap, hG.n] at this
    · intro i hi
      rw [add_box, add_use]
      refine ⟨by omega, ?_, (hC' i _ (List.getElem?_eq_getElem hi)).2⟩
      rw [cell_of_row _ _ _ a T (0, 0) (heap_alloc_new w _)]
      have : i < a.size := by omega
      simp [Array.getD, this]
end
end Go.Sv
end
section
set_option linter.all false
/- append. -/
namespace Go.Sv
open Go Go.RowKit

theorem growBy_le (newLen : Nat) : ∀ r c, Builtin.growBy newLen r c ≤ max c (newLen + (newLen + 768) / 4)
  | 0, c => by simp [Builtin.growBy]; omega
  | r + 1, c => by
    unfold Builtin.growBy
    split
    · omega
    · have := growBy_le newLen r (c + (c + 768) / 4)
      omega
theorem nextcap_le (need cap : Nat) (h : cap < need) : Builtin.nextslicecap need cap ≤ 2 * need := by
  unfold Builtin.nextslicecap
  split
  · omega
  · split
    · omega
    · have := growBy_le need 4 cap; omega

section
variable {w0 : World} {g : Gh} {S : St} {w : World} {k : K}

theorem cs_of_cont {B o : Nat} {cs : List SV} {f : Nat → Value} (hc : Cont g w B o cs.length f) (hR : ∀ i c, cs[i]? = some c → R g w (f i) c) : Cs g w ((List.range cs.length).map f).toArray cs := by
  intro i c hi
  have hl : i < cs.length := (List.getElem?_eq_some_iff.1 hi).1
  have e : ((List.range cs.length).map f).toArray.getD i undef = f i := by simp [Array.getD, hl]
  rw [e]
  exact ⟨hR i c hi, (hc i hl).2.2⟩

/-- What is appended, read. -/
theorem src_sound (hG : G w0 g S w) {u : Value} {x : SV} {sz m : Nat} {ys : List SV} (hx : R g w u x) (h : srcCells x S sz = some (m, ys)) :
    ∃ A c, ∃ new : Array Value, u = .slice A m c ∧ new.size = ys.length ∧ ys.length = m * sz ∧ Cs g w new ys ∧ ∀ w1 : World, (∀ a, w1.cell? a = w.cell? a) → (Builtin.firstCells sz m u).run k.P w1 = .ok new w1 := by
  have rd : ∀ (B o c : Nat) (cs : List SV) (f : Nat → Value), Cont g w B o cs.length f → (∀ i c, cs[i]? = some c → R g w (f i) c) → cs.length = m * sz → cs = ys →
      ∃ A c', ∃ new : Array Value, Value.slice (some ⟨B, o, none⟩) m c = .slice A m c' ∧ new.size = ys.length ∧ ys.length = m * sz ∧ Cs g w new ys ∧ ∀ w1 : World, (∀ a, w1.cell? a = w.cell? a) → (Builtin.firstCells sz m (.slice (some ⟨B, o, none⟩) m c)).run k.P w1 = .ok new w1 := by
    intro B o c cs f hc hR hl he
    subst he
    refine ⟨_, c, ((List.range cs.length).map f).toArray, rfl, by simp, hl, cs_of_cont hc hR, fun w1 hw => ?_⟩
    have := run_loadCells (P := k.P) w1 ⟨B, o, none⟩ cs.length f (fun j hj => by rw [hw, add_none]; exact (hc j hj).2.1)
    simpa [Builtin.firstCells, hl] using this
  unfold srcCells at h
  split at h
  · simp only [Option.some.injEq, Prod.mk.injEq] at h
    obtain ⟨rfl, rfl⟩ := h
    cases hx
    exact ⟨none, 0, #[], rfl, rfl, by simp, fun i c hi => by simp at hi, fun w1 _ => by simp [Builtin.firstCells]⟩
  · simp only [Option.some.injEq, Prod.mk.injEq] at h
    obtain ⟨rfl, rfl⟩ := h
    cases hx
    exact ⟨_, _, #[], rfl, rfl, by simp, fun i c hi => by simp at hi, fun w1 _ => by simp [Builtin.firstCells, loadCells]; rfl⟩
  · simp only [Option.some.injEq, Prod.mk.injEq] at h
    obtain ⟨rfl, rfl⟩ := h
    cases hx with
    | emp B o =>
      refine ⟨some ⟨B, o, none⟩, 0, #[], rfl, rfl, by simp, fun i c hi => by simp at hi, fun w1 _ => ?_⟩
      have := run_loadCells (P := k.P) w1 ⟨B, o, none⟩ 0 (fun _ => undef) (fun j hj => by omega)
      simpa [Builtin.firstCells] using this
    | nil0 => exact ⟨none, 0, #[], rfl, rfl, by simp, fun i c hi => by simp at hi, fun w1 _ => by simp [Builtin.firstCells]⟩
  · split at h
    · rename_i hl
      simp only [Option.some.injEq, Prod.mk.injEq] at h
      obtain ⟨rfl, rfl⟩ := h
      cases hx with
      | sl B o n c cs f hc hR hn => exact rd B o c _ f hc hR hl rfl
      | own b n cs f hb hc hR hn => exact rd _ 0 _ _ f hc hR hl rfl
      | nil => exact ⟨none, 0, #[], rfl, rfl, by simp, fun i c hi => by simp at hi, fun w1 _ => by simp [Builtin.firstCells]⟩
      | slz a c => exact ⟨some a, _, #[], rfl, rfl, by simp, fun i c hi => by simp at hi, fun w1 _ => by simp [Builtin.firstCells, loadCells]; rfl⟩
    · cases h
  · rename_i b m1
    split at h
    · rename_i s zs hget
      split at h
      · rename_i hl
        simp only [Option.some.injEq, Prod.mk.injEq] at h
        obtain ⟨rfl, rfl⟩ := h
        cases hx with
        | arr b n hb hn =>
          have hO := hG.obj b hb
          rw [hget] at hO
          obtain ⟨a, T, h1, h2, h3, h4, h5⟩ := hO
          refine ⟨_, _, ((List.range zs.length).map fun i => a.getD i undef).toArray, rfl, by simp, hl, fun i c hi => ?_, fun w1 hw => ?_⟩
          · have hlt : i < zs.length := (List.getElem?_eq_some_iff.1 hi).1
            have e : ((List.range zs.length).map fun i => a.getD i undef).toArray.getD i undef = a.getD i undef := by simp [Array.getD, hlt]
            rw [e]; exact h4 i c hi
          · have := run_loadCells (P := k.P) w1 ⟨g.box b, 0, none⟩ zs.length (fun i => a.getD i undef) (fun j hj => by
              rw [hw]
              have := row_load (w := w) (B := g.box b) (off := 0) h1 j (by omega)
              simpa using this)
            simpa [Builtin.firstCells, hl] using this
      · cases h
    · cases h
  · cases h

theorem zc_size (z : Array Value) (n : Nat) : (Builtin.zeroCells z n).size = n * z.size := by simp [Builtin.zeroCells]

/-- append that makes a new array. -/
theorem run_grow {t t2 ty e e2 : TypeId} {i0 : TypeInfo} {z : Value} {base : Option Addr} {sLen sCap m : Nat} {u : Value} {A : Option Addr} {c : Nat} {old new : Array Value} (hu : k.P.underlying t = some (.slice e)) (hu2 : k.P.underlying t2 = some (.slice e2))
    (hi : k.P.info? e = some i0) (hz : i0.zero = some z) (hx : u = .slice A m c) (hby : i0.bytes ≠ 0) (hroom : (sLen + m) * i0.bytes ≤ room) (hcap : sCap < sLen + m)
    (hold : ∀ w1 : World, (∀ a, w1.cell? a = w.cell? a) → (Builtin.firstCells i0.size sLen (.slice base sLen sCap)).run k.P w1 = .ok old w1)
    (hnew : ∀ w1 : World, (∀ a, w1.cell? a = w.cell? a) → (Builtin.firstCells i0.size m u).run k.P w1 = .ok new w1) :
    ∃ nc, sLen + m ≤ nc ∧ (Builtin.append_ #[t, t2] ty #[.slice base sLen sCap, u]).run k.P w = .ok (.slice (some ⟨w.heap.size, 0, none⟩) (sLen + m) nc) (w.drew.alloc (.cells (old ++ new ++ Builtin.zeroCells z.cells (nc - (sLen + m))) e)) := by
  have hnc := nextcap_le (sLen + m) sCap hcap
  have hle : ¬ Builtin.nextslicecap (sLen + m) sCap * i0.bytes > 2 ^ 48 := by
    have h1 : Builtin.nextslicecap (sLen + m) sCap * i0.bytes ≤ 2 * (sLen + m) * i0.bytes := Nat.mul_le_mul_right _ hnc
    have h2 : 2 * (sLen + m) * i0.bytes = 2 * ((sLen + m) * i0.bytes) := by rw [Nat.mul_assoc]
    unfold room at hroom
    omega
  refine ⟨(sLen + m) + (w.tape w.drawn (.appendCap (sLen + m) sCap e)) % (2 ^ 63 - (sLen + m)), Nat.le_add_right _ _, ?_⟩
  subst hx
  have hsz : ∀ w : World, (sizeOf e).run k.P w = .ok i0.size w := fun w => by simp [sizeOf, typeInfo, hi]
  have hti : ∀ w : World, (typeInfo e).run k.P w = .ok i0 w := fun w => by simp [typeInfo, hi]
  have hzv : ∀ w : World, (zeroValue e).run k.P w = .ok z w := fun w => by simp [zeroValue, typeInfo, hi, hz]
  have hn : ¬ sLen + m ≤ sCap := by omega
  have hnew' := hnew w.drew (fun a => rfl)
  have hold' := hold w.drew (fun a => rfl)
  have hle' : ¬ 281474976710656 < Builtin.nextslicecap (sLen + m) sCap * i0.bytes := by simpa using hle
  simp [Builtin.append_, run_underlying hu, run_underlying hu2, Builtin.lenOf, hn, hby, hle', hsz, hti, hzv, hnew', hold', run_choose, Question.forced, Question.cut, newRow]

/-- append within the capacity. -/
theorem run_fits {t t2 ty e e2 : TypeId} {i0 : TypeInfo} {B sLen sCap m : Nat} {u : Value} {A : Option Addr} {c : Nat} {a new : Array Value} {T : TypeId} (hu : k.P.underlying t = some (.slice e)) (hu2 : k.P.underlying t2 = some (.slice e2))
    (hi : k.P.info? e = some i0) (hx : u = .slice A m c) (hcap : sLen + m ≤ sCap) (hB : w.heap[B]? = some (.cells a T (0, 0)))
    (hnew : (Builtin.firstCells i0.size m u).run k.P w = .ok new w) (hf : ∀ v ∈ new.toList, flatV v = true) (hl : sLen * i0.size + new.size ≤ a.size) :
    (Builtin.append_ #[t, t2] ty #[.slice (some ⟨B, 0, none⟩) sLen sCap, u]).run k.P w = .ok (.slice (some ⟨B, 0, none⟩) (sLen + m) sCap) (w.setRow B (rowPut a (sLen * i0.size) new.toList)) := by
  subst hx
  have hsz : ∀ w : World, (sizeOf e).run k.P w = .ok i0.size w := fun w => by simp [sizeOf, typeInfo, hi]
  have hst := run_storeCells_at k.P B (sLen * i0.size) T new.toList 0 a w hB (by simp; omega) (fun c hc => flat_one (hf c hc))
  simp only [Nat.add_zero] at hst
  simp [Builtin.append_, run_underlying hu, run_underlying hu2, Builtin.lenOf, hcap, hsz, hnew, add_none, hst, rowPut]

theorem Cs.append {a b : Array Value} {cs ds : List SV} (h : Cs g w a cs) (ha : a.size = cs.length) (k : Cs g w b ds) : Cs g w (a ++ b) (cs ++ ds) := by
  intro i c hi
  by_cases h1 : i < cs.length
  · rw [List.getElem?_append_left h1] at hi
    have e : (a ++ b).getD i undef = a.getD i undef := by
      rw [getD_list, getD_list]
      simp [List.getD, List.getElem?_append_left (show i < a.toList.length by simp; omega)]
    rw [e]; exact h i c hi
  · rw [List.getElem?_append_right (by omega)] at hi
    have e : (a ++ b).getD i undef = b.getD (i - cs.length) undef := by
      rw [getD_list, getD_list]
      simp [List.getD, List.getElem?_append_right (show a.toList.length ≤ i by simp; omega), ha]
    rw [e]; exact k _ c hi

theorem Cs.more {a b : Array Value} {cs : List SV} (h : Cs g w a cs) (ha : cs.length ≤ a.size) : Cs g w (a ++ b) cs := by
  intro i c hi
  have h1 : i < cs.length := (List.getElem?_eq_some_iff.1 hi).1
  have e : (a ++ b).getD i undef = a.getD i undef := by
    rw [getD_list, getD_list]
    simp [List.getD, List.getElem?_append_left (show i < a.toList.length by simp; omega)]
  rw [e]; exact h i c hi

/-- What a slice that may be appended to holds. -/
theorem own_facts (hG : G w0 g S w) {u : Value} {b n : Nat} {cs : List SV} {sz len : Nat} (hx : R g w u (.sl (some b) n cs)) (hget : S.get b = .own sz len) (hl : cs.length = len) :
    b < g.n ∧ u = .slice (some ⟨g.box b, 0, none⟩) n (g.cap b) ∧ n ≤ g.cap b ∧ g.use (g.box b) = len ∧ ∃ a T, w.heap[g.box b]? = some (.cells a T (0, 0)) ∧ a.size = g.cap b * sz ∧ len ≤ a.size ∧ Cs g w a cs := by
  cases hx with
  | own b n cs f hb hc hR hn =>
    have hO := hG.obj b hb
    rw [hget] at hO
    obtain ⟨a, T, h1, h2, h3, h4⟩ := hO
    refine ⟨hb, rfl, hn, h4, a, T, h1, h2, h3, fun i c hi => ?_⟩
    have hlt : i < cs.length := (List.getElem?_eq_some_iff.1 hi).1
    have h5 := (hc i hlt).2.1
    rw [cell_of_row w _ _ a T (0, 0) h1, Nat.zero_add] at h5
    have e : a.getD i undef = f i := by rw [getD_list]; simp [List.getD, h5]
    rw [e]
    exact ⟨hR i c hi, (hc i hlt).2.2⟩

theorem arr_facts (hG : G w0 g S w) {u : Value} {b n : Nat} {cs : List SV} {sz : Nat} (hx : R g w u (.arr b n)) (hget : S.get b = .arr sz cs) :
    b < g.n ∧ u = .slice (some ⟨g.box b, 0, none⟩) n (g.cap b) ∧ n ≤ g.cap b ∧ g.use (g.box b) = 0 ∧ ∃ a T, w.heap[g.box b]? = some (.cells a T (0, 0)) ∧ a.size = g.cap b * sz ∧ cs.length ≤ a.size ∧ Cs g w a cs := by
  cases hx with
  | arr b n hb hn =>
    have hO := hG.obj b hb
    rw [hget] at hO
    obtain ⟨a, T, h1, h2, h3, h4, h5⟩ := hO
    exact ⟨hb, rfl, hn, h5, a, T, h1, h2, h3, h4⟩
end
end Go.Sv
end
