/- A part of the proofs of this seat's laws: an interpreter of the program's form, its soundness against the model, or what it answers on this program. -/
import Derived.Test.YtkflapebfmcmaaaGreatTK
import Derived.Test.YtkflapebfmcmaaaGreatSvPr
import Derived.Laws.StructEq
import Derived.ProofKit
namespace Go.Proofs.YtkflapebfmcmaaaGreat
open Go Go.Sv Go.RowKit
set_option linter.all false
set_option maxRecDepth 100000

theorem len2 {l : List Int} (h : l.length = 2) : ∃ a b, l = [a, b] := by
  match l, h with
  | [a, b], _ => exact ⟨a, b, rfl⟩
theorem len4 {l : List Int} (h : l.length = 4) : ∃ a b c d, l = [a, b, c, d] := by
  match l, h with
  | [a, b, c, d], _ => exact ⟨a, b, c, d, rfl⟩
theorem len6 {l : List Int} (h : l.length = 6) : ∃ a b c d e f, l = [a, b, c, d, e, f] := by
  match l, h with
  | [a, b, c, d, e, f], _ => exact ⟨a, b, c, d, e, f, rfl⟩

theorem eq108 (xs ys : List Int) (w : World) (h : xs.length = 2) (h' : ys.length = 2) : (Op.equal 108 (.agg (mkInts [.u32, .i64] xs).toArray) (.agg (mkInts [.u32, .i64] ys).toArray)).run Tryz.prog w = .ok (xs == ys) w := by
  obtain ⟨a, b, rfl⟩ := len2 h
  obtain ⟨c, d, rfl⟩ := len2 h'
  have u3 := Tryz.underlying3
  have a3 := Tryz.isAgg3
  have z3 := Tryz.sizeOf3
  have u24 := Tryz.underlying24
  have a24 := Tryz.isAgg24
  have z24 := Tryz.sizeOf24
  have hS : Tryz.prog.underlying 108 = some (.struct (Tryz.prog.fieldsOf 108)) := by kernel_rfl
  have hp : Tryz.prog.stoodInHeld 108 = false := by kernel_rfl
  simp only [mkInts, Op.equal]
  rw [show Op.maxDepth = 9999 + 1 from rfl, run_equalIn_struct w 9999 108 _ _ hS hp]
  simp only [Program.fieldsOf, Tryz.underlying108]
  go_simp
  by_cases h1 : a = c <;> by_cases h2 : b = d <;> simp [h1, h2]

theorem eq26d (dd : Nat) (a b c d a' b' c' d' : Int) (w : World) : (Op.equalIn (dd + 2) 26 (.agg #[.int .u32 a, .int .u32 b, .int .u32 c, .int .u32 d]) (.agg #[.int .u32 a', .int .u32 b', .int .u32 c', .int .u32 d'])).run Tryz.prog w = .ok ([a, b, c, d] == [a', b', c', d']) w := by
  have u24 := Tryz.underlying24
  have a24 := Tryz.isAgg24
  have z24 := Tryz.sizeOf24
  unfold Op.equalIn
  simp only [Sem.run_bind, run_underlying Tryz.underlying26, Result.andThen_ok]
  simp only [Std.Legacy.Range.forIn_eq_forIn_range', Std.Legacy.Range.size, Nat.sub_zero, Nat.add_sub_cancel, Nat.div_one, List.range'_succ, List.range'_zero, List.forIn_cons, List.forIn_nil]
  go_simp
  by_cases h1 : a = a'
  · by_cases h2 : b = b'
    · by_cases h3 : c = c'
      · by_cases h4 : d = d' <;> simp [h1, h2, h3, h4]
      · simp [h1, h2, h3]
    · simp [h1, h2]
  · simp [h1]

theorem eq26 (xs ys : List Int) (w : World) (h : xs.length = 4) (h' : ys.length = 4) : (Op.equal 26 (.agg (mkInts [.u32, .u32, .u32, .u32] xs).toArray) (.agg (mkInts [.u32, .u32, .u32, .u32] ys).toArray)).run Tryz.prog w = .ok (xs == ys) w := by
  obtain ⟨a, b, c, d, rfl⟩ := len4 h
  obtain ⟨a', b', c', d', rfl⟩ := len4 h'
  exact eq26d 9998 a b c d a' b' c' d' w

theorem eq28 (xs ys : List Int) (w : World) (h : xs.length = 6) (h' : ys.length = 6) : (Op.equal 28 (.agg (mkInts [.i64, .i64, .u32, .u32, .u32, .u32] xs).toArray) (.agg (mkInts [.i64, .i64, .u32, .u32, .u32, .u32] ys).toArray)).run Tryz.prog w = .ok (xs == ys) w := by
  obtain ⟨p, q, a, b, c, d, rfl⟩ := len6 h
  obtain ⟨p', q', a', b', c', d', rfl⟩ := len6 h'
  have u3 := Tryz.underlying3
  have a3 := Tryz.isAgg3
  have z3 := Tryz.sizeOf3
  have a26 := Tryz.isAgg26
  have z26 := Tryz.sizeOf26
  have e26 : ∀ w, (Op.equalIn 9999 26 (.agg #[.int .u32 a, .int .u32 b, .int .u32 c, .int .u32 d]) (.agg #[.int .u32 a', .int .u32 b', .int .u32 c', .int .u32 d'])).run Tryz.prog w = .ok ([a, b, c, d] == [a', b', c', d']) w := eq26d 9997 a b c d a' b' c' d'
  have hS : Tryz.prog.underlying 28 = some (.struct (Tryz.prog.fieldsOf 28)) := by kernel_rfl
  have hp : Tryz.prog.stoodInHeld 28 = false := by kernel_rfl
  simp only [mkInts, Op.equal]
  rw [show Op.maxDepth = 9999 + 1 from rfl, run_equalIn_struct w 9999 28 _ _ hS hp]
  simp only [Program.fieldsOf, Tryz.underlying28]
  go_simp
  by_cases h1 : p = p'
  · by_cases h2 : q = q'
    · simp only [h1, h2, if_true]
      by_cases g1 : a = a'
      · by_cases g2 : b = b'
        · by_cases g3 : c = c'
          · by_cases g4 : d = d' <;> simp [g1, g2, g3, g4]
          · simp [g1, g2, g3]
        · simp [g1, g2]
      · simp [g1]
    · simp [h1, h2]
  · simp [h1]

theorem eqs_ok (t : TypeId) (sh : List IntKind) (h : eqs t = some sh) : Tryz.prog.eqGuardType Tryz.prog.depth t = false ∧ ∀ (xs ys : List Int) (w : World), xs.length = sh.length → ys.length = sh.length → (Op.equal t (.agg (mkInts sh xs).toArray) (.agg (mkInts sh ys).toArray)).run Tryz.prog w = .ok (xs == ys) w := by
  unfold eqs at h
  split at h
  · rename_i ht; subst ht; injection h with h; subst h
    exact ⟨by kernel_rfl, fun xs ys w h h' => eq28 xs ys w h h'⟩
  · split at h
    · rename_i ht; subst ht; injection h with h; subst h
      exact ⟨by kernel_rfl, fun xs ys w h h' => eq26 xs ys w h h'⟩
    · split at h
      · rename_i ht; subst ht; injection h with h; subst h
        exact ⟨by kernel_rfl, fun xs ys w h h' => eq108 xs ys w h h'⟩
      · cases h

theorem fns_ok (f : FuncId) (c : CF) (h : fnsK f = some c) : ∃ fn body, Tryz.prog.funcs[f]? = some fn ∧ compF fn = c ∧ fn.body = some body ∧ (fn.name == "runtime.NumGoroutine") = false ∧ wfC c.nt c.body = true ∧ c.nt ≤ 1000000 := by
  unfold fnsK at h
  rw [Option.bind_eq_some_iff] at h
  obtain ⟨fn, h1, h2⟩ := h
  split at h2
  · rename_i hok
    injection h2 with h2
    subst h2
    simp only [okF, Bool.and_eq_true, Bool.not_eq_true', decide_eq_true_eq] at hok
    obtain ⟨⟨⟨h3, h4⟩, h5⟩, h6⟩ := hok
    obtain ⟨body, hb⟩ := Option.isSome_iff_exists.1 h3
    exact ⟨fn, body, h1, rfl, hb, h4, h5, h6⟩
  · cases h2

theorem mixed : Tryz.prog.follows .mixedOrders = true := by kernel_rfl

theorem clone_grows (sz by_ : Nat) : Grows (clone sz by_) := by
  intro args S x S' h
  unfold clone at h
  split at h
  · split at h
    · simp only [Option.some.injEq, Prod.mk.injEq] at h; obtain ⟨_, rfl⟩ := h; exact ⟨Nat.le_refl _, fun _ _ => rfl⟩
    · split at h
      · simp only [Option.some.injEq, Prod.mk.injEq] at h; obtain ⟨_, rfl⟩ := h
        exact ⟨Nat.le_succ _, fun b hb => by rw [get_alloc_lt hb]⟩
      · cases h
  · simp only [Option.some.injEq, Prod.mk.injEq] at h; obtain ⟨_, rfl⟩ := h; exact ⟨Nat.le_refl _, fun _ _ => rfl⟩
  · simp only [Option.some.injEq, Prod.mk.injEq] at h; obtain ⟨_, rfl⟩ := h; exact ⟨Nat.le_refl _, fun _ _ => rfl⟩
  · cases h

theorem ks_kk (p36 : List SV → St → Option (SV × St)) (p12 : Option (List SV → St → Option (SV × St))) : KS (kkOf p36 p12) where
  mixed := mixed
  fns := fns_ok
  eqT := eqs_ok
  pg := fun f hf => by
    have hf : (f == 57 || f == 69 || f == 70) = true := hf
    simp only [Bool.or_eq_true, beq_iff_eq] at hf
    rcases hf with (rfl | rfl) | rfl
    · exact ⟨_, rfl, clone_grows 6 32⟩
    · exact ⟨_, rfl, clone_grows 1 8⟩
    · exact ⟨_, rfl, clone_grows 2 16⟩

theorem ks_k1 : KS k1 where
  mixed := mixed
  fns := fns_ok
  eqT := eqs_ok
  pg := fun f hf => by cases hf

theorem ks_k0 : KS k0 where
  mixed := mixed
  fns := fns_ok
  eqT := fun t sh h => by cases h
  pg := fun f hf => by cases hf
theorem kp_k0 : KP k0 := fun f p h => by cases h
end Go.Proofs.YtkflapebfmcmaaaGreat
