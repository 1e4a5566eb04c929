/- Parts of the proofs of this seat's laws. -/
import Derived.Test.YtkflapebfmcmaaaGreatBOnce19
section
namespace Go.Sv
open Go Go.Proofs Go.Proofs.YtkflapebfmcmaaaGreat
set_option linter.all false
set_option maxRecDepth 100000

/-! Told programs without loops: both branches are the same kind of thing. -/
theorem splitB_dec {Z : Type} (p : Prop) [Decidable p] (a b : Option Z) : splitB (.v (.bool (decide p))) a b = if p then a else b := by
  by_cases h : p <;> simp [h, splitB_t, splitB_f]
theorem mb (c : Prop) [Decidable c] (a b : Bool) (S : St) : (if c then some (SV.v (.bool a), S) else some (SV.v (.bool b), S)) = some (SV.v (.bool (if c then a else b)), S) := by split <;> rfl
theorem mi (c : Prop) [Decidable c] (q : IntKind) (a b : Int) (S : St) : (if c then some (SV.v (.int q a), S) else some (SV.v (.int q b), S)) = some (SV.v (.int q (if c then a else b)), S) := by split <;> rfl
theorem mlb (c : Prop) [Decidable c] (a b : Bool) : (if c then some [SV.v (.bool a)] else some [SV.v (.bool b)]) = some [SV.v (.bool (if c then a else b))] := by split <;> rfl
theorem mli (c : Prop) [Decidable c] (q : IntKind) (a b : Int) : (if c then some [SV.v (.int q a)] else some [SV.v (.int q b)]) = some [SV.v (.int q (if c then a else b))] := by split <;> rfl

theorem ite_or (b c : Bool) : (if b = true then true else c) = (b || c) := by cases b <;> rfl
theorem ite_and (b c : Bool) : (if b = true then c else false) = (b && c) := by cases b <;> rfl
/-! Lists of numbers. -/
def ic (q : IntKind) (x : Int) : List SV := [.v (.int q x)]
def nums (l : List Int) : SV := sl (ic .i64) l
theorem ic_len (q : IntKind) (x : Int) : (ic q x).length = 1 := rfl
theorem ic_flat (q : IntKind) (l : List Int) : l.flatMap (ic q) = l.map fun x => .v (.int q x) := by
  induction l with
  | nil => rfl
  | cons x r ih => simp [ic, ih]
theorem nums_eq (l : List Int) : nums l = .sl none l.length (l.map fun x => .v (.int .i64 x)) := by rw [nums, sl, ic_flat]
theorem shutL_nums (q : IntKind) (l : List Int) : shutL (l.flatMap (ic q)) = l.flatMap (ic q) := by
  rw [ic_flat]; induction l with
  | nil => rfl
  | cons x r ih => simp only [List.map_cons, shutL, shut, ih]
theorem weakL_nums (q : IntKind) (l : List Int) : weakL (l.flatMap (ic q)) = l.flatMap (ic q) := by
  rw [ic_flat]; induction l with
  | nil => rfl
  | cons x r ih => simp only [List.map_cons, weakL, weak, weakV, ih]
theorem nums_ws (l : List Int) : weak (shut (nums l)) = nums l := by
  simp only [nums, sl, shut, weak, shutL_nums, weakL_nums]
theorem bool_ws (b : Bool) : weak (shut (.v (.bool b))) = .v (.bool b) := rfl
/-- A list that a caller has made. -/
theorem own_ws (id : Option Nat) (l : List Int) : weak (shut (.sl id l.length (l.map fun x => .v (.int .i64 x)))) = nums l := by
  rw [← nums_ws l, nums_eq]; rfl
theorem nums_erase (S : St) (l : List Int) : erase S (nums l) = nums l := by
  simp only [nums, sl, erase]
  rw [ic_flat]
  congr 1
  induction l with
  | nil => rfl
  | cons x r ih => simp only [List.map_cons, eraseL, erase, weakV, ih]

theorem len_nums {k : K} (hP : k.P = Tryz.prog) (l : List Int) : lenE k 22 (nums l) = some (.v (.int .i64 (l.length : Int))) := len_sl hP Tryz.underlying22 _ l
theorem index_nums {k : K} (hP : k.P = Tryz.prog) (q : IntKind) (l : List Int) (i : Nat) (h : i < l.length) : indexAddrE k 22 (nums l) (.v (.int q (i : Int))) = some (.cp [.v (.int .i64 l[i])]) := index_sl hP Tryz.underlying22 size3 (ic .i64) (ic_len .i64) l i h q
theorem agg_num {k : K} (hP : k.P = Tryz.prog) {t : TypeId} {q : IntKind} (h : Tryz.prog.underlying t = some (.int q)) : agg? k t = some false := by
  unfold agg?; rw [hP, h]
theorem load_cp {k : K} (hP : k.P = Tryz.prog) (x : SV) (S : St) : loadE k 3 (.cp [x]) S = some x := by
  simp only [loadE, agg_num hP Tryz.underlying3, size_of hP size3, Option.bind_some, takeVal]; rfl
theorem loadK_cp {Z : Type} {k : K} (hP : k.P = Tryz.prog) (m : Nat) (x : SV) (S : St) (K : SV → Option Z) : loadK k m 3 (.cp [x]) S K = K x := by
  simp only [loadK, load_cp hP, Option.bind_some]

/-! A loop over a list by its index: what a round does with an element, until it leaves. -/
def foldE {α β ρ : Type} (f : β → α → ρ ⊕ β) : β → List α → ρ ⊕ β
  | b, [] => .inr b
  | b, x :: r => match f b x with | .inl q => .inl q | .inr b' => foldE f b' r

theorem iter_list {α β ρ : Type} {F : List SV → St → Option (Ex × List SV × St)} (l : List α) (st : β → Nat → List SV × St) (f : β → α → ρ ⊕ β) (I : β → Nat → Prop) (out : ρ → Nat → Option (Ex × List SV × St)) (hout : ∀ q i, ∃ vs S, out q i = some (.ret, vs, S))
    (hstep : ∀ b i (h : i < l.length), I b i → F (st b i).1 (st b i).2 = (match f b l[i] with | .inl q => out q i | .inr b' => some (.normal, st b' (i + 1))) ∧ ∀ b', f b l[i] = .inr b' → I b' (i + 1))
    (hend : ∀ b, I b l.length → F (st b l.length).1 (st b l.length).2 = some (.exit 0, st b l.length)) :
    ∀ (suf : List α) (i : Nat), l.drop i = suf → i ≤ l.length → ∀ (b : β) (M : Nat), I b i → suf.length < M →
      ∃ j, iter F M (st b i).1 (st b i).2 = (match foldE f b suf with | .inl q => out q j | .inr b' => some (.exit 0, st b' l.length)) ∧ ∀ b', foldE f b suf = .inr b' → I b' l.length
  | [], i, hd, hi, b, M, hI, hM => by
    obtain ⟨M, rfl⟩ : ∃ m, M = m + 1 := ⟨M - 1, by have : 0 < M := hM; omega⟩
    have : l.length ≤ i := by
      have := congrArg List.length hd
      simp at this
      omega
    have e : i = l.length := by omega
    subst e
    refine ⟨0, iter_exit (hend b hI), fun b' h => ?_⟩
    simp only [foldE, Sum.inr.injEq] at h
    subst h; exact hI
  | x :: r, i, hd, hi, b, M, hI, hM => by
    obtain ⟨M, rfl⟩ : ∃ m, M = m + 1 := ⟨M - 1, by rw [List.length_cons] at hM; omega⟩
    have hlt : i < l.length := by
      have := congrArg List.length hd
      simp at this
      omega
    have hx : l[i] = x := by
      have := congrArg (fun z => z[0]?) hd
      simp [hlt] at this
      exact this
    have hr : l.drop (i + 1) = r := by
      have := congrArg List.tail hd
      simpa using this
    obtain ⟨h1, h2⟩ := hstep b i hlt hI
    rw [hx] at h1 h2
    rw [foldE]
    cases hf : f b x with
    | inl q =>
      rw [hf] at h1
      obtain ⟨vs, S, ho⟩ := hout q i
      refine ⟨i, ?_, fun b' h => by cases h⟩
      simp only at h1
      rw [ho] at h1
      rw [iter_ret h1]
      exact ho.symm
    | inr b' =>
      rw [hf] at h1
      obtain ⟨j, h3, h4⟩ := iter_list l st f I out hout hstep hend r (i + 1) hr hlt b' M (h2 b' hf) (by simpa using hM)
      exact ⟨j, by rw [iter_normal h1]; exact h3, h4⟩

/-- A loop that leaves at the first element of a kind. -/
theorem iter_any {α : Type} {F : List SV → St → Option (Ex × List SV × St)} (l : List α) (vs : Nat → List SV) (S0 : St) (c : α → Bool) (out : Nat → List SV)
    (hstep : ∀ i (h : i < l.length), F (vs i) S0 = if c l[i] = true then some (.ret, out i, S0) else some (.normal, vs (i + 1), S0))
    (hend : F (vs l.length) S0 = some (.exit 0, vs l.length, S0)) {M : Nat} (hM : l.length < M) :
    ∃ j, iter F M (vs 0) S0 = if l.any c = true then some (.ret, out j, S0) else some (.exit 0, vs l.length, S0) := by
  obtain ⟨j, hj, _⟩ := iter_list (F := F) l (fun (_ : Unit) i => (vs i, S0)) (fun _ x => if c x = true then .inl () else .inr ()) (fun _ _ => True) (fun (_ : Unit) i => some (.ret, out i, S0)) (fun _ _ => ⟨_, _, rfl⟩)
    (fun b i h _ => ⟨by rw [hstep i h]; split <;> rfl, fun _ _ => trivial⟩) (fun b _ => hend) l 0 rfl (by omega) () M trivial hM
  refine ⟨j, ?_⟩
  have hf : foldE (fun (_ : Unit) x => if c x = true then (.inl () : Unit ⊕ Unit) else .inr ()) () l = if l.any c = true then .inl () else .inr () := by
    clear hj hM hstep hend
    induction l with
    | nil => rfl
    | cons x r ih =>
      rw [foldE, List.any_cons]
      cases h : c x with
      | true => rfl
      | false => simpa [h] using ih
  rw [hf] at hj
  rw [show iter F M (vs 0) S0 = iter F M (vs 0, S0).fst (vs 0, S0).snd from rfl, hj]
  cases l.any c <;> rfl

/-- A list that grows by append, in rows of its own. -/
def Acc (sz : Nat) (n : Nat) (cs : List SV) (y : SV) (S : St) : Prop :=
  S.floor ≤ S.next ∧ ((n = 0 ∧ cs = [] ∧ y = .v (.slice none 0 0)) ∨ ∃ b, y = .sl (some b) n cs ∧ S.get b = .own sz (n * sz) ∧ b < S.next ∧ S.floor ≤ b ∧ cs.length = n * sz)

theorem append_acc {k : K} {t e : TypeId} {sz by_ : Nat} {z : List SV} (he : elem? k t = some e) (hs : size? k e = some sz) (hb : bytes? k e = some by_) (hz : zero? k e = some z) (h0 : sz ≠ 0) (h1 : by_ ≠ 0) (h2 : z.length = sz) (hbx : k.inBox e ≠ 1)
    {n : Nat} {cs x : List SV} {y : SV} {S : St} (h : Acc sz n cs y S) (hx : x.length = sz) (hr : (n + 1) * by_ ≤ room) :
    ∃ y' S', appendE k t y (.sl (some S.next) 1 x) (S.alloc (.own sz sz)) = some (y', S') ∧ Acc sz (n + 1) (cs ++ x) y' S' ∧ S'.floor = S.floor ∧ S.next ≤ S'.next := by
  obtain ⟨hf, h⟩ := h
  rcases h with ⟨rfl, rfl, rfl⟩ | ⟨b, rfl, hg, hbn, hbf, hcl⟩
  · refine ⟨.sl (some (S.next + 1)) 1 x, (S.alloc (.own sz sz)).alloc (.own sz x.length), ?_, ⟨?_, .inr ⟨S.next + 1, rfl, ?_, ?_, ?_, ?_⟩⟩, rfl, ?_⟩
    · simp only [appendE, he, hs, hb, hz, srcCells, Option.bind_some, hx]
      simp [h0, h1, h2, hbx]
      have : by_ ≤ room := by simpa using hr
      simp [this]
      exact ⟨rfl, by rw [hx]⟩
    · simp [St.alloc]; omega
    · simp [St.alloc, hx]
    · simp [St.alloc]
    · simp [St.alloc]; omega
    · simpa using hx
    · simp [St.alloc]; omega
  · have hgb : (S.alloc (.own sz sz)).get b = .own sz (n * sz) := by
      have : b ≠ S.next := by omega
      simp [St.alloc, this, hg]
    refine ⟨.sl (some (S.next + 1)) (n + 1) (cs ++ x), ((S.alloc (.own sz sz)).put b .dead).alloc (.own sz (cs.length + x.length)), ?_, ⟨?_, .inr ⟨S.next + 1, rfl, ?_, ?_, ?_, ?_⟩⟩, rfl, ?_⟩
    · simp only [appendE, he, hs, hb, hz, srcCells, Option.bind_some, hx, hgb]
      have hfl : (S.alloc (SObj.own sz sz)).floor ≤ b := hbf
      simp [h0, h1, h2, hbx, hcl, hr, hfl]
      exact ⟨rfl, by rw [hx]⟩
    · simp [St.alloc, St.put]; omega
    · simp [St.alloc, St.put, hcl, hx, Nat.add_mul]
    · simp [St.alloc, St.put]
    · simp [St.alloc, St.put]; omega
    · simp [hcl, hx, Nat.add_mul]
    · simp [St.alloc, St.put]; omega

/-- What a caller is told of it. -/
theorem acc_erase {sz n : Nat} {cs : List SV} {y : SV} {S : St} (h : Acc sz n cs y S) (S2 : St) : erase S2 y = .sl none n (eraseL S2 cs) := by
  rcases h.2 with ⟨rfl, rfl, rfl⟩ | ⟨b, rfl, _⟩
  · rfl
  · rfl

/-- A loop that appends what it makes of each element. -/
theorem iter_map {α : Type} {F : List SV → St → Option (Ex × List SV × St)} {k : K} {t e : TypeId} {sz by_ : Nat} {z : List SV} (he : elem? k t = some e) (hs : size? k e = some sz) (hb : bytes? k e = some by_) (hz : zero? k e = some z) (h0 : sz ≠ 0) (h1 : by_ ≠ 0) (h2 : z.length = sz) (hbx : k.inBox e ≠ 1)
    (l : List α) (g : α → List SV) (hg : ∀ x ∈ l, (g x).length = sz) (hr : l.length * by_ ≤ room) (vs : SV → Nat → List SV) (fl : Nat)
    (hstep : ∀ i (h : i < l.length) y S, S.floor = fl → Acc sz i ((l.take i).flatMap g) y S → F (vs y i) S = (appendE k t y (.sl (some S.next) 1 (g l[i])) (S.alloc (.own sz sz))).bind fun p => some (.normal, vs p.1 (i + 1), p.2))
    (hend : ∀ y S, S.floor = fl → Acc sz l.length (l.flatMap g) y S → F (vs y l.length) S = some (.exit 0, vs y l.length, S)) :
    ∀ (suf : List α) (i : Nat), l.drop i = suf → i ≤ l.length → ∀ (y : SV) (S : St) (M : Nat), S.floor = fl → Acc sz i ((l.take i).flatMap g) y S → suf.length < M →
      ∃ y' S', iter F M (vs y i) S = some (.exit 0, vs y' l.length, S') ∧ Acc sz l.length (l.flatMap g) y' S' ∧ S'.floor = fl
  | [], i, hd, hi, y, S, M, hf, hA, hM => by
    obtain ⟨M, rfl⟩ : ∃ m, M = m + 1 := ⟨M - 1, by have : 0 < M := hM; omega⟩
    have : l.length ≤ i := by
      have := congrArg List.length hd
      simp at this
      omega
    have e : i = l.length := by omega
    subst e
    rw [List.take_length] at hA
    exact ⟨y, S, iter_exit (hend y S hf hA), hA, hf⟩
  | x :: r, i, hd, hi, y, S, M, hf, hA, hM => by
    obtain ⟨M, rfl⟩ : ∃ m, M = m + 1 := ⟨M - 1, by rw [List.length_cons] at hM; omega⟩
    have hlt : i < l.length := by
      have := congrArg List.length hd
      simp at this
      omega
    have hx : l[i] = x := by
      have := congrArg (fun z => z[0]?) hd
      simp [hlt] at this
      exact this
    have hdr : l.drop (i + 1) = r := by
      have := congrArg List.tail hd
      simpa using this
    obtain ⟨y', S', h3, h4, h5, h6⟩ := append_acc he hs hb hz h0 h1 h2 hbx hA (hg l[i] (List.getElem_mem hlt)) (Nat.le_trans (Nat.mul_le_mul_right _ hlt) hr)
    have hst := hstep i hlt y S hf hA
    rw [h3, Option.bind_some] at hst
    have h4' : Acc sz (i + 1) ((l.take (i + 1)).flatMap g) y' S' := by
      rw [List.take_succ_eq_append_getElem hlt, List.flatMap_append]
      simpa using h4
    obtain ⟨y2, S2, h7, h8, h9⟩ := iter_map he hs hb hz h0 h1 h2 hbx l g hg hr vs fl hstep hend r (i + 1) hdr hlt y' S' M (h5.trans hf) h4' (by simpa using hM)
    exact ⟨y2, S2, by rw [iter_normal hst]; exact h7, h8, h9⟩

theorem eraseL_nums (S : St) (q : IntKind) (l : List Int) : eraseL S (l.flatMap (ic q)) = l.flatMap (ic q) := by
  rw [ic_flat]; induction l with
  | nil => rfl
  | cons x r ih => simp only [List.map_cons, eraseL, erase, weakV, ih]
theorem acc0 (sz : Nat) {S : St} (h : S.floor ≤ S.next) : Acc sz 0 [] (.v (.slice none 0 0)) S := ⟨h, .inl ⟨rfl, rfl, rfl⟩⟩
end Go.Sv
end
section
namespace Go.Sv
open Go Go.Proofs
set_option linter.all false
set_option maxRecDepth 1000000
set_option maxHeartbeats 0
def h77 : H := { hh with live := fun b => match b with  | _ => [], keep := fun b => match b with  | _ => none }
theorem tell77 (N : Nat) (u0 : Int) : cBody (kt.at 77) h77 (run kt) N (compF Tryz.f77) [.v (.int .i64 u0)] St0 = (splitB (.v (.bool (u0 == (1 : Int))))
 ((some ((.v (.int .i64 (1 : Int))), St0)))
 ((splitB (.v (.bool (u0 == (8 : Int))))
 ((some ((.v (.int .i64 (1 : Int))), St0)))
 ((splitB (.v (.bool (u0 == (16 : Int))))
 ((some ((.v (.int .i64 (2 : Int))), St0)))
 ((splitB (.v (.bool (u0 == (32 : Int))))
 ((some ((.v (.int .i64 (4 : Int))), St0)))
 ((splitB (.v (.bool (u0 == (128 : Int))))
 ((some ((.v (.int .i64 (16 : Int))), St0)))
 ((some ((.v (.int .i64 (0 : Int))), St0)))))))))))) := by kernel_rfl
theorem fn77 : fnsK 77 = some (compF Tryz.f77) := by kernel_rfl
def h137 : H := { hh with live := fun b => match b with  | _ => [], keep := fun b => match b with | 3 => some [(2, 2)] | _ => none }
theorem tell137 (N : Nat) (u0 : Int) : cBody (kt.at 137) h137 (run kt) N (compF Tryz.f137) [.v (.int .i64 u0)] St0 = ((splitB (.v (.bool (u0 != (1 : Int))))
 ((run kt (.func 77 [] []) [(.v (.int .i64 u0))] St0).bind fun p0 => openInt p0.1 fun a1 => (some [(.v (.bool (decide (a1 > (0 : Int)))))]))
 ((some [(.v (.bool false))])))).bind fun vs2 => openHd vs2 fun y3 r4 => openBool y3 fun b5 => (some ((.v (.bool b5)), St0)) := by kernel_rfl
theorem fn137 : fnsK 137 = some (compF Tryz.f137) := by kernel_rfl
def h141 : H := { hh with live := fun b => match b with  | _ => [], keep := fun b => match b with | 5 => some [(21, 2)] | _ => none }
theorem tell141 (N : Nat) (u0 : Int) (u1 : T26) : cBody (kt.at 141) h141 (run kt) N (compF Tryz.f141) [.v (.int .i64 u0), .agg u1.enc] St0 = ((splitB (.v (.bool (u0 != (128 : Int))))
 ((splitB (.v (.bool (u1.c1 != (0 : Int))))
 ((some [(.v (.bool true))]))
 ((splitB (.v (.bool (u1.c2 != (0 : Int))))
 ((some [(.v (.bool true))]))
 ((some [(.v (.bool (u1.c3 != (0 : Int))))]))))))
 ((some [(.v (.bool false))])))).bind fun vs0 => openHd vs0 fun y1 r2 => openBool y1 fun b3 => (splitB (.v (.bool b3))
 ((some ((.v (.bool false)), St0)))
 ((splitB (.v (.bool (u0 == (1 : Int))))
 ((some ((.v (.bool (decide (u1.c0 < (2 : Int))))), St0)))
 ((splitB (.v (.bool (u0 == (8 : Int))))
 ((some ((.v (.bool (decide (u1.c0 < (256 : Int))))), St0)))
 ((splitB (.v (.bool (u0 == (16 : Int))))
 ((some ((.v (.bool (decide (u1.c0 < (65536 : Int))))), St0)))
 ((run kt (.func 77 [] []) [(.v (.int .i64 u0))] St0).bind fun p4 => openInt p4.1 fun a5 => (some ((.v (.bool (decide (a5 > (0 : Int))))), p4.2)))))))))) := by kernel_rfl
theorem fn141 : fnsK 141 = some (compF Tryz.f141) := by kernel_rfl
def h81 : H := { hh with live := fun b => match b with  | _ => [], keep := fun b => match b with | 16 => some [(45, 2)] | _ => none }
theorem tell81 (N : Nat) (n0 : Nat) (k0 : List SV) (u1 : T28) : cBody (kt.at 81) h81 (run kt) N (compF Tryz.f81) [.sl none n0 k0, .agg u1.enc] St0 = (splitB (.v (.bool (u1.tmp == (-(1 : Int)))))
 ((run kt (.func 141 [] []) [(.v (.int .i64 u1.ty)), (.agg [(.v (.int .u32 u1.c0)), (.v (.int .u32 u1.c1)), (.v (.int .u32 u1.c2)), (.v (.int .u32 u1.c3))])] St0).bind fun p0 => openBool p0.1 fun b1 => (splitB (.v (.bool (!b1)))
 ((some ((.v (.int .i64 (0 : Int))), p0.2)))
 ((some ((.v (.int .i64 u1.ty)), p0.2)))))
 (((splitB (.v (.bool (decide (u1.tmp < (0 : Int)))))
 ((some [(.v (.bool true))]))
 ((splitB (.v (.bool (decide (u1.tmp ≥ ((n0 : Nat) : Int)))))
 ((some [(.v (.bool true))]))
 ((splitB (.v (.bool (u1.ty != (0 : Int))))
 ((some [(.v (.bool true))]))
 ((splitB (.v (.bool (!((u1.c0 == (0 : Int)) && ((u1.c1 == (0 : Int)) && ((u1.c2 == (0 : Int)) && ((u1.c3 == (0 : Int)) && true)))))))
 ((some [(.v (.bool true))]))
 ((indexAddrE (kt.at 81) 22 (.sl none n0 k0) (.v (.int .i64 u1.tmp))).bind fun r2 => (loadE (kt.at 81) 3 r2 St0).bind fun r3 => openInt r3 fun a4 => (run kt (.func 77 [] []) [(.v (.int .i64 a4))] St0).bind fun p5 => openInt p5.1 fun a6 => (some [(.v (.bool (a6 == (0 : Int))))])))))))))).bind fun vs7 => openHd vs7 fun y8 r9 => openBool y8 fun b10 => (splitB (.v (.bool b10))
 ((some ((.v (.int .i64 (0 : Int))), St0)))
 ((indexAddrE (kt.at 81) 22 (.sl none n0 k0) (.v (.int .i64 u1.tmp))).bind fun r11 => (loadE (kt.at 81) 3 r11 St0).bind fun r12 => openInt r12 fun a13 => (some ((.v (.int .i64 a13)), St0)))))) := by kernel_rfl
theorem fn81 : fnsK 81 = some (compF Tryz.f81) := by kernel_rfl
def h133 : H := { hh with live := fun b => match b with | 0 => [(5, 0), (6, 1)] | _ => [], keep := fun b => match b with  | _ => none }
theorem tell133 (N : Nat) (n0 : Nat) (k0 : List SV) (n1 : Nat) (k1 : List SV) : cBody (kt.at 133) h133 (run kt) N (compF Tryz.f133) [.sl none n0 k0, .sl none n1 k1] St0 = (iter (fun vs0 S1 => openHd vs0 fun y2 r3 => openHd r3 fun y4 r5 => openInt y4 fun a6 => (splitB (.v (.bool (decide (a6 < ((n1 : Nat) : Int)))))
 ((indexAddrE (kt.at 133) 53 (.sl none n1 k1) (.v (.int .i64 a6))).bind fun r7 => openCp cd28 r7 fun t8 => (run kt (.func 81 [] []) [(.sl none n0 k0), (.agg t8.enc)] S1).bind fun p9 => openInt p9.1 fun a10 => (appendE (kt.at 133) 22 y2 (.sl (some (St.next p9.2)) 1 [(.v (.int .i64 a10))]) (St.alloc p9.2 (.own 1 1))).bind fun p11 => (some (.normal, ([p11.1, (.v (.int .i64 (IntKind.wrap .i64 (a6 + (1 : Int)))))], p11.2))))
 ((some ((.exit 0), ([y2, (.v (.int .i64 a6))], S1)))))) N [(.v (.slice none 0 0)), (.v (.int .i64 (0 : Int)))] St0).bind fun q12 => openHd q12.2.1 fun y13 r14 => openHd r14 fun y15 r16 => openInt y15 fun a17 => (exits q12.1 (fun i18 => (if i18 = 0 then (some (y13, q12.2.2)) else none)) ((some ((.v (.slice none 0 0)), q12.2.2)))) := by kernel_rfl
theorem fn133 : fnsK 133 = some (compF Tryz.f133) := by kernel_rfl
def h76 : H := { hh with live := fun b => match b with | 0 => [(4, 2), (5, 1)] | _ => [], keep := fun b => match b with  | _ => none }
theorem tell76 (N : Nat) (n0 : Nat) (k0 : List SV) (n1 : Nat) (k1 : List SV) : cBody (kt.at 76) h76 (run kt) N (compF Tryz.f76) [.sl none n0 k0, .sl none n1 k1] St0 = (splitB (.v (.bool (((n0 : Nat) : Int) != ((n1 : Nat) : Int))))
 ((some ((.v (.bool false)), St0)))
 ((iter (fun vs0 S1 => openHd vs0 fun y2 r3 => openBool y2 fun b4 => openHd r3 fun y5 r6 => openInt y5 fun a7 => (splitB (.v (.bool (decide (a7 < ((n0 : Nat) : Int)))))
 ((indexAddrE (kt.at 76) 22 (.sl none n0 k0) (.v (.int .i64 a7))).bind fun r8 => loadK (kt.at 76) (St.next S1) 3 r8 S1 fun r9 => openInt r9 fun a10 => (indexAddrE (kt.at 76) 22 (.sl none n1 k1) (.v (.int .i64 a7))).bind fun r11 => loadK (kt.at 76) (St.next S1) 3 r11 S1 fun r12 => openInt r12 fun a13 => (splitB (.v (.bool (a10 != a13)))
 ((some (.ret, ([(.v (.bool false)), (.v (.int .i64 a7))], S1))))
 ((some (.normal, ([(.v (.bool b4)), (.v (.int .i64 (IntKind.wrap .i64 (a7 + (1 : Int)))))], S1))))))
 ((some ((.exit 0), ([(.v (.bool b4)), (.v (.int .i64 a7))], S1)))))) N [(.v (.bool false)), (.v (.int .i64 (0 : Int)))] St0).bind fun q14 => openHd q14.2.1 fun y15 r16 => openBool y15 fun b17 => openHd r16 fun y18 r19 => openInt y18 fun a20 => (exits q14.1 (fun i21 => (if i21 = 0 then (some ((.v (.bool true)), q14.2.2)) else none)) ((some ((.v (.bool b17)), q14.2.2)))))) := by kernel_rfl
theorem fn76 : fnsK 76 = some (compF Tryz.f76) := by kernel_rfl
def h139 : H := { hh with live := fun b => match b with | 0 => [(4, 2), (5, 1)] | _ => [], keep := fun b => match b with | 15 => some [(29, 2)] | _ => none }
theorem tell139 (N : Nat) (n0 : Nat) (k0 : List SV) (u1 : Int) : cBody (kt.at 139) h139 (run kt) N (compF Tryz.f139) [.sl none n0 k0, .v (.int .i64 u1)] St0 = (splitB (.v (.bool (((n0 : Nat) : Int) != u1)))
 ((some ((.v (.bool false)), St0)))
 ((iter (fun vs0 S1 => openHd vs0 fun y2 r3 => openBool y2 fun b4 => openHd r3 fun y5 r6 => openInt y5 fun a7 => (splitB (.v (.bool (decide (a7 < u1))))
 (((indexAddrE (kt.at 139) 22 (.sl none n0 k0) (.v (.int .i64 a7))).bind fun r8 => loadK (kt.at 139) (St.next S1) 3 r8 S1 fun r9 => openInt r9 fun a10 => (splitB (.v (.bool (a10 == (0 : Int))))
 ((some [(.v (.bool true))]))
 ((indexAddrE (kt.at 139) 22 (.sl none n0 k0) (.v (.int .i64 a7))).bind fun r11 => loadK (kt.at 139) (St.next S1) 3 r11 S1 fun r12 => openInt r12 fun a13 => (indexAddrE (kt.at 139) 22 (.sl none n0 k0) (.v (.int .i64 (0 : Int)))).bind fun r14 => loadK (kt.at 139) (St.next S1) 3 r14 S1 fun r15 => openInt r15 fun a16 => (some [(.v (.bool (a13 != a16)))])))).bind fun vs17 => openHd vs17 fun y18 r19 => openBool y18 fun b20 => (splitB (.v (.bool b20))
 ((some (.ret, ([(.v (.bool false)), (.v (.int .i64 a7))], S1))))
 ((some (.normal, ([(.v (.bool b4)), (.v (.int .i64 (IntKind.wrap .i64 (a7 + (1 : Int)))))], S1))))))
 ((some ((.exit 0), ([(.v (.bool b4)), (.v (.int .i64 a7))], S1)))))) N [(.v (.bool false)), (.v (.int .i64 (0 : Int)))] St0).bind fun q21 => openHd q21.2.1 fun y22 r23 => openBool y22 fun b24 => openHd r23 fun y25 r26 => openInt y25 fun a27 => (exits q21.1 (fun i28 => (if i28 = 0 then (some ((.v (.bool true)), q21.2.2)) else none)) ((some ((.v (.bool b24)), q21.2.2)))))) := by kernel_rfl
theorem fn139 : fnsK 139 = some (compF Tryz.f139) := by kernel_rfl
def h179 : H := { hh with live := fun b => match b with  | _ => [], keep := fun b => match b with | 10 => some [(6, 2)] | 20 => some [(6, 2)] | 36 => some [(6, 2)] | 48 => some [(6, 2)] | 56 => some [(6, 2)] | 64 => some [(6, 2)] | 74 => some [(6, 2)] | 82 => some [(6, 2)] | 91 => some [(6, 2)] | _ => none }
theorem tell179 (N : Nat) (u0 : Int) (u1 : Int) (u2 : Int) : cBody (kt.at 179) h179 (run kt) N (compF Tryz.f179) [.v (.int .i64 u0), .v (.int .i64 u1), .v (.int .i64 u2)] St0 = (splitB (.v (.bool (u0 == (1 : Int))))
 (((splitB (.v (.bool (u1 == u2)))
 ((some [(.v (.bool (u1 != (0 : Int))))]))
 ((some [(.v (.bool false))])))).bind fun vs0 => openHd vs0 fun y1 r2 => openBool y1 fun b3 => (some ((.v (.bool b3)), St0)))
 ((splitB (.v (.bool (u0 == (2 : Int))))
 (((splitB (.v (.bool (u1 == (1 : Int))))
 ((some [(.v (.bool (u2 == (32 : Int))))]))
 ((splitB (.v (.bool (u1 == (8 : Int))))
 ((some [(.v (.bool (u2 == (32 : Int))))]))
 ((splitB (.v (.bool (u1 == (16 : Int))))
 ((some [(.v (.bool (u2 == (32 : Int))))]))
 ((some [(.v (.bool false))])))))))).bind fun vs4 => openHd vs4 fun y5 r6 => openBool y5 fun b7 => (some ((.v (.bool b7)), St0)))
 ((splitB (.v (.bool (u0 == (3 : Int))))
 (((splitB (.v (.bool (u1 == (1 : Int))))
 ((some [(.v (.bool (u2 == (32 : Int))))]))
 ((splitB (.v (.bool (u1 == (8 : Int))))
 ((some [(.v (.bool (u2 == (32 : Int))))]))
 ((splitB (.v (.bool (u1 == (16 : Int))))
 ((some [(.v (.bool (u2 == (32 : Int))))]))
 ((some [(.v (.bool false))])))))))).bind fun vs8 => openHd vs8 fun y9 r10 => openBool y9 fun b11 => (some ((.v (.bool b11)), St0)))
 ((splitB (.v (.bool (u0 == (4 : Int))))
 (((splitB (.v (.bool (u1 == (32 : Int))))
 ((splitB (.v (.bool (u2 == (8 : Int))))
 ((some [(.v (.bool true))]))
 ((some [(.v (.bool (u2 == (16 : Int))))]))))
 ((some [(.v (.bool false))])))).bind fun vs12 => openHd vs12 fun y13 r14 => openBool y13 fun b15 => (some ((.v (.bool b15)), St0)))
 ((splitB (.v (.bool (u0 == (5 : Int))))
 (((splitB (.v (.bool (u1 != (0 : Int))))
 ((some [(.v (.bool (u2 == (1 : Int))))]))
 ((some [(.v (.bool false))])))).bind fun vs16 => openHd vs16 fun y17 r18 => openBool y17 fun b19 => (some ((.v (.bool b19)), St0)))
 ((splitB (.v (.bool (u0 == (6 : Int))))
 (((splitB (.v (.bool (u1 == (1 : Int))))
 ((run kt (.func 137 [] []) [(.v (.int .i64 u2))] St0).bind fun p20 => openBool p20.1 fun b21 => (some [(.v (.bool b21))]))
 ((some [(.v (.bool false))])))).bind fun vs22 => openHd vs22 fun y23 r24 => openBool y23 fun b25 => (some ((.v (.bool b25)), St0)))
 ((splitB (.v (.bool (u0 == (7 : Int))))
 (((splitB (.v (.bool (u1 == (32 : Int))))
 ((some [(.v (.bool (u2 == (32 : Int))))]))
 ((some [(.v (.bool false))])))).bind fun vs26 => openHd vs26 fun y27 r28 => openBool y27 fun b29 => (some ((.v (.bool b29)), St0)))
 ((splitB (.v (.bool (u0 == (8 : Int))))
 (((splitB (.v (.bool (u1 == (128 : Int))))
 ((some [(.v (.bool (u2 == (128 : Int))))]))
 ((some [(.v (.bool false))])))).bind fun vs30 => openHd vs30 fun y31 r32 => openBool y31 fun b33 => (some ((.v (.bool b33)), St0)))
 ((splitB (.v (.bool (u0 == (9 : Int))))
 (((splitB (.v (.bool (u1 == (128 : Int))))
 ((some [(.v (.bool (u2 == (128 : Int))))]))
 ((some [(.v (.bool false))])))).bind fun vs34 => openHd vs34 fun y35 r36 => openBool y35 fun b37 => (some ((.v (.bool b37)), St0)))
 ((splitB (.v (.bool (u0 == (10 : Int))))
 (((splitB (.v (.bool (u1 == (128 : Int))))
 ((some [(.v (.bool (u2 == (128 : Int))))]))
 ((some [(.v (.bool false))])))).bind fun vs38 => openHd vs38 fun y39 r40 => openBool y39 fun b41 => (some ((.v (.bool b41)), St0)))
 ((splitB (.v (.bool (u0 == (11 : Int))))
 (((splitB (.v (.bool (u1 == (32 : Int))))
 ((some [(.v (.bool (u2 == (128 : Int))))]))
 ((some [(.v (.bool false))])))).bind fun vs42 => openHd vs42 fun y43 r44 => openBool y43 fun b45 => (some ((.v (.bool b45)), St0)))
 ((splitB (.v (.bool (u0 == (12 : Int))))
 (((splitB (.v (.bool (u1 == (128 : Int))))
 ((some [(.v (.bool (u2 == (32 : Int))))]))
 ((some [(.v (.bool false))])))).bind fun vs46 => openHd vs46 fun y47 r48 => openBool y47 fun b49 => (some ((.v (.bool b49)), St0)))
 ((splitB (.v (.bool (u0 == (13 : Int))))
 (((splitB (.v (.bool (u1 == (128 : Int))))
 ((some [(.v (.bool (u2 == (32 : Int))))]))
 ((some [(.v (.bool false))])))).bind fun vs50 => openHd vs50 fun y51 r52 => openBool y51 fun b53 => (some ((.v (.bool b53)), St0)))
 ((some ((.v (.bool false)), St0)))))))))))))))))))))))))))) := by kernel_rfl
theorem fn179 : fnsK 179 = some (compF Tryz.f179) := by kernel_rfl
def h181 : H := { hh with live := fun b => match b with  | _ => [], keep := fun b => match b with | 16 => some [(15, 2)] | 22 => some [(15, 2)] | 28 => some [(6, 2)] | 34 => some [(33, 2)] | 40 => some [(6, 2)] | 54 => some [(6, 2)] | 61 => some [(60, 2)] | 67 => some [(6, 2)] | 73 => some [(72, 2)] | 79 => some [(6, 2)] | 87 => some [(6, 2)] | _ => none }
theorem tell181 (N : Nat) (u0 : Int) (n1 : Nat) (k1 : List SV) (u2 : Int) : cBody (kt.at 181) h181 (run kt) N (compF Tryz.f181) [.v (.int .i64 u0), .sl none n1 k1, .v (.int .i64 u2)] St0 = (run kt (.func 76 [] []) [(.sl none n1 k1), (.sl (some 0) 2 [(.v (.int .i64 (32 : Int))), (.v (.int .i64 (32 : Int)))])] (St.alloc St0 (.own 1 2))).bind fun p0 => openBool p0.1 fun b1 => (run kt (.func 76 [] []) [(.sl none n1 k1), (.sl (some (St.next p0.2)) 2 [(.v (.int .i64 (128 : Int))), (.v (.int .i64 (128 : Int)))])] (St.alloc p0.2 (.own 1 2))).bind fun p2 => openBool p2.1 fun b3 => ((splitB (.v (.bool (decide (u0 ≥ (1 : Int)))))
 ((some [(.v (.bool (decide (u0 ≤ (7 : Int)))))]))
 ((some [(.v (.bool false))])))).bind fun vs4 => openHd vs4 fun y5 r6 => openBool y5 fun b7 => (splitB (.v (.bool b7))
 (((splitB (.v (.bool b1))
 ((some [(.v (.bool (u2 == (32 : Int))))]))
 ((some [(.v (.bool false))])))).bind fun vs8 => openHd vs8 fun y9 r10 => openBool y9 fun b11 => (some ((.v (.bool b11)), p2.2)))
 (((splitB (.v (.bool (decide (u0 ≥ (11 : Int)))))
 ((some [(.v (.bool (decide (u0 ≤ (13 : Int)))))]))
 ((some [(.v (.bool false))])))).bind fun vs12 => openHd vs12 fun y13 r14 => openBool y13 fun b15 => (splitB (.v (.bool b15))
 (((splitB (.v (.bool b1))
 ((some [(.v (.bool (u2 == (32 : Int))))]))
 ((some [(.v (.bool false))])))).bind fun vs16 => openHd vs16 fun y17 r18 => openBool y17 fun b19 => (some ((.v (.bool b19)), p2.2)))
 (((splitB (.v (.bool (decide (u0 ≥ (8 : Int)))))
 ((some [(.v (.bool (decide (u0 ≤ (10 : Int)))))]))
 ((some [(.v (.bool false))])))).bind fun vs20 => openHd vs20 fun y21 r22 => openBool y21 fun b23 => (splitB (.v (.bool b23))
 (((run kt (.func 139 [] []) [(.sl none n1 k1), (.v (.int .i64 (2 : Int)))] p2.2).bind fun p24 => openBool p24.1 fun b25 => (splitB (.v (.bool b25))
 ((indexAddrE (kt.at 181) 22 (.sl none n1 k1) (.v (.int .i64 (0 : Int)))).bind fun r26 => (loadE (kt.at 181) 3 r26 p24.2).bind fun r27 => openInt r27 fun a28 => (some [(.v (.bool (u2 == a28)))]))
 ((some [(.v (.bool false))])))).bind fun vs29 => openHd vs29 fun y30 r31 => openBool y30 fun b32 => (some ((.v (.bool b32)), p2.2)))
 ((splitB (.v (.bool (u0 == (14 : Int))))
 (((run kt (.func 139 [] []) [(.sl none n1 k1), (.v (.int .i64 (2 : Int)))] p2.2).bind fun p33 => openBool p33.1 fun b34 => (splitB (.v (.bool b34))
 ((some [(.v (.bool (u2 == (1 : Int))))]))
 ((some [(.v (.bool false))])))).bind fun vs35 => openHd vs35 fun y36 r37 => openBool y36 fun b38 => (some ((.v (.bool b38)), p2.2)))
 ((splitB (.v (.bool (u0 == (15 : Int))))
 (((run kt (.func 139 [] []) [(.sl none n1 k1), (.v (.int .i64 (2 : Int)))] p2.2).bind fun p39 => openBool p39.1 fun b40 => (splitB (.v (.bool b40))
 ((some [(.v (.bool (u2 == (1 : Int))))]))
 ((some [(.v (.bool false))])))).bind fun vs41 => openHd vs41 fun y42 r43 => openBool y42 fun b44 => (some ((.v (.bool b44)), p2.2)))
 (((splitB (.v (.bool (decide (u0 ≥ (16 : Int)))))
 ((some [(.v (.bool (decide (u0 ≤ (19 : Int)))))]))
 ((some [(.v (.bool false))])))).bind fun vs45 => openHd vs45 fun y46 r47 => openBool y46 fun b48 => (splitB (.v (.bool b48))
 (((splitB (.v (.bool b1))
 ((some [(.v (.bool (u2 == (1 : Int))))]))
 ((some [(.v (.bool false))])))).bind fun vs49 => openHd vs49 fun y50 r51 => openBool y50 fun b52 => (some ((.v (.bool b52)), p2.2)))
 (((splitB (.v (.bool (decide (u0 ≥ (20 : Int)))))
 ((some [(.v (.bool (decide (u0 ≤ (29 : Int)))))]))
 ((some [(.v (.bool false))])))).bind fun vs53 => openHd vs53 fun y54 r55 => openBool y54 fun b56 => (splitB (.v (.bool b56))
 (((splitB (.v (.bool b3))
 ((some [(.v (.bool (u2 == (128 : Int))))]))
 ((some [(.v (.bool false))])))).bind fun vs57 => openHd vs57 fun y58 r59 => openBool y58 fun b60 => (some ((.v (.bool b60)), p2.2)))
 ((splitB (.v (.bool (u0 == (30 : Int))))
 ((run kt (.func 76 [] []) [(.sl none n1 k1), (.sl (some (St.next p2.2)) 2 [(.v (.int .i64 (128 : Int))), (.v (.int .i64 (32 : Int)))])] (St.alloc p2.2 (.own 1 2))).bind fun p61 => openBool p61.1 fun b62 => (splitB (.v (.bool b62))
 ((some ((.v (.bool (u2 == (128 : Int)))), p61.2)))
 ((some ((.v (.bool false)), p61.2)))))
 ((some ((.v (.bool false)), p2.2)))))))))))))))))) := by kernel_rfl
theorem fn181 : fnsK 181 = some (compF Tryz.f181) := by kernel_rfl
def h136 : H := { hh with live := fun b => match b with  | _ => [], keep := fun b => match b with | 8 => some [(4, 2)] | _ => none }
theorem tell136 (N : Nat) (u0 : Int) (u1 : Int) : cBody (kt.at 136) h136 (run kt) N (compF Tryz.f136) [.v (.int .i64 u0), .v (.int .i64 u1)] St0 = (run kt (.func 77 [] []) [(.v (.int .i64 u0))] St0).bind fun p0 => openInt p0.1 fun a1 => ((run kt (.func 137 [] []) [(.v (.int .i64 u0))] p0.2).bind fun p2 => openBool p2.1 fun b3 => (splitB (.v (.bool b3))
 ((splitB (.v (.bool (decide (u1 ≥ (0 : Int)))))
 ((binE (kt.at 136) .rem 3 (.v (.int .i64 u1)) (.v (.int .i64 a1))).bind fun r4 => (binE (kt.at 136) .eql 3 r4 (.v (.int .i64 (0 : Int)))).bind fun r5 => (splitG r5
 ((some [(.v (.bool (decide (u1 ≤ (IntKind.wrap .i64 ((672 : Int) - a1))))))]))
 ((some [(.v (.bool false))]))
 ((splitG r5
 (none)
 ((some [(.v (.bool false))]))
 ((splitG r5
 (none)
 ((some [(.v (.bool false))]))
 ((splitG r5
 (none)
 ((some [(.v (.bool false))]))
 ((splitB r5
 ((some [(.v undef)]))
 ((some [(.v (.bool false))]))))))))))))
 ((some [(.v (.bool false))]))))
 ((some [(.v (.bool false))])))).bind fun vs6 => openHd vs6 fun y7 r8 => openBool y7 fun b9 => (some ((.v (.bool b9)), p0.2)) := by kernel_rfl
theorem fn136 : fnsK 136 = some (compF Tryz.f136) := by kernel_rfl
def h180 : H := { hh with live := fun b => match b with  | _ => [], keep := fun b => match b with | 5 => some [(4, 2)] | _ => none }
theorem tell180 (N : Nat) (u0 : Bool) (u1 : Int) : cBody (kt.at 180) h180 (run kt) N (compF Tryz.f180) [.v (.bool u0), .v (.int .i64 u1)] St0 = ((splitB (.v (.bool (u1 == (0 : Int))))
 ((some [(.v (.bool true))]))
 ((splitB (.v (.bool u0))
 ((splitB (.v (.bool (decide (u1 > (0 : Int)))))
 ((some [(.v (.bool (decide (u1 ≤ (3 : Int)))))]))
 ((some [(.v (.bool false))]))))
 ((some [(.v (.bool false))])))))).bind fun vs0 => openHd vs0 fun y1 r2 => openBool y1 fun b3 => (some ((.v (.bool b3)), St0)) := by kernel_rfl
theorem fn180 : fnsK 180 = some (compF Tryz.f180) := by kernel_rfl
def h134 : H := { hh with live := fun b => match b with  | _ => [], keep := fun b => match b with | 3 => some [(2, 2)] | _ => none }
theorem tell134 (N : Nat) (u0 : T55) : cBody (kt.at 134) h134 (run kt) N (compF Tryz.f134) [.agg u0.enc] St0 = ((splitB (.v (.bool (u0.kind == (0 : Int))))
 ((splitB (.v (.bool (u0.ty == (0 : Int))))
 ((splitB (.v (.bool (u0.op == (0 : Int))))
 ((splitB (.v (.bool (u0.off == (0 : Int))))
 ((lenE (kt.at 134) 53 u0.l).bind fun r0 => openInt r0 fun a1 => (some [(.v (.bool (a1 == (0 : Int))))]))
 ((some [(.v (.bool false))]))))
 ((some [(.v (.bool false))]))))
 ((some [(.v (.bool false))]))))
 ((some [(.v (.bool false))])))).bind fun vs2 => openHd vs2 fun y3 r4 => openBool y3 fun b5 => (some ((.v (.bool b5)), St0)) := by kernel_rfl
theorem fn134 : fnsK 134 = some (compF Tryz.f134) := by kernel_rfl
def h138 : H := { hh with live := fun b => match b with | 0 => [(2, 2), (3, 1)] | _ => [], keep := fun b => match b with  | _ => none }
theorem tell138 (N : Nat) (n0 : Nat) (k0 : List SV) : cBody (kt.at 138) h138 (run kt) N (compF Tryz.f138) [.sl none n0 k0] St0 = (iter (fun vs0 S1 => openHd vs0 fun y2 r3 => openBool y2 fun b4 => openHd r3 fun y5 r6 => openInt y5 fun a7 => (splitB (.v (.bool (decide (a7 < ((n0 : Nat) : Int)))))
 ((indexAddrE (kt.at 138) 22 (.sl none n0 k0) (.v (.int .i64 a7))).bind fun r8 => (loadE (kt.at 138) 3 r8 S1).bind fun r9 => openInt r9 fun a10 => (splitB (.v (.bool (a10 != (0 : Int))))
 ((some (.ret, ([(.v (.bool false)), (.v (.int .i64 a7))], S1))))
 ((some (.normal, ([(.v (.bool b4)), (.v (.int .i64 (IntKind.wrap .i64 (a7 + (1 : Int)))))], S1))))))
 ((some ((.exit 0), ([(.v (.bool b4)), (.v (.int .i64 a7))], S1)))))) N [(.v (.bool false)), (.v (.int .i64 (0 : Int)))] St0).bind fun q11 => openHd q11.2.1 fun y12 r13 => openBool y12 fun b14 => openHd r13 fun y15 r16 => openInt y15 fun a17 => (exits q11.1 (fun i18 => (if i18 = 0 then (some ((.v (.bool true)), q11.2.2)) else none)) ((some ((.v (.bool b14)), q11.2.2)))) := by kernel_rfl
theorem fn138 : fnsK 138 = some (compF Tryz.f138) := by kernel_rfl
def h80 : H := { hh with live := fun b => match b with  | _ => [], keep := fun b => match b with | 3 => some [(10, 2)] | _ => none }
theorem tell80 (N : Nat) (u0 : T57) : cBody (kt.at 80) h80 (run kt) N (compF Tryz.f80) [.agg u0.enc] St0 = ((splitB (.v (.bool (u0.kind == (2 : Int))))
 ((some [(.v (.bool true))]))
 ((some [(.v (.bool (u0.kind == (5 : Int))))])))).bind fun vs0 => openHd vs0 fun y1 r2 => openBool y1 fun b3 => (splitB (.v (.bool b3))
 ((some ((.v (.int .i64 u0.tmp)), St0)))
 ((some ((.v (.int .i64 (-(1 : Int)))), St0)))) := by kernel_rfl
theorem fn80 : fnsK 80 = some (compF Tryz.f80) := by kernel_rfl
end Go.Sv
end
