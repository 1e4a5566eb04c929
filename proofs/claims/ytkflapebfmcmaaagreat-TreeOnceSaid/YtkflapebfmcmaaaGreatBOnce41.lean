/- Parts of the proofs of this seat's laws. -/
import Derived.Test.YtkflapebfmcmaaaGreatBOnce40
import Derived.Test.YtkflapebfmcmaaaGreatBOnce27
section
namespace Go.Sv
open Go Go.Proofs Go.Proofs.YtkflapebfmcmaaaGreat
set_option linter.all false
set_option maxRecDepth 100000

/-! Lists that are read. -/
def Rd' {α : Type} (f : α → List SV) (l : List α) (y : SV) : Prop := (∃ id, y = .sl id l.length (l.flatMap f)) ∨ (l = [] ∧ (y = .v (.slice none 0 0) ∨ y = .emp))
theorem rd_sl {α : Type} (f : α → List SV) (l : List α) : Rd' f l (sl f l) := .inl ⟨none, rfl⟩
theorem rd_len {k : K} {t e : TypeId} {α : Type} {f : α → List SV} (hP : k.P = Tryz.prog) (ht : Tryz.prog.underlying t = some (.slice e)) {l : List α} {y : SV} (h : Rd' f l y) : lenE k t y = some (.v (.int .i64 (l.length : Int))) := by
  rcases h with ⟨id, rfl⟩ | ⟨rfl, rfl | rfl⟩
  · rw [len_id]; exact len_sl hP ht f l
  · simp [lenE, elem_of hP ht]
  · simp [lenE, elem_of hP ht]
theorem rd_index {k : K} {t e sz : Nat} (hP : k.P = Tryz.prog) (ht : Tryz.prog.underlying t = some (.slice e)) (hs : (Tryz.prog.info? e).map (·.size) = some sz) {α : Type} {f : α → List SV} (hf : ∀ x, (f x).length = sz) {l : List α} {y : SV} (h : Rd' f l y) (i : Nat) (hi : i < l.length) (q : IntKind) :
    indexAddrE k t y (.v (.int q (i : Int))) = some (.cp (f l[i])) := by
  rcases h with ⟨id, rfl⟩ | ⟨rfl, _⟩
  · rw [index_id]; exact index_sl hP ht hs f hf l i hi q
  · simp at hi
/-- Cells that tell nothing of the state. -/
def Clean {α : Type} (f : α → List SV) : Prop := ∀ x, (shutL (f x) = f x ∧ weakL (f x) = f x) ∧ ∀ S, eraseL S (f x) = f x
theorem eraseL_append (S : St) : ∀ a b : List SV, eraseL S (a ++ b) = eraseL S a ++ eraseL S b
  | [], b => rfl
  | x :: a, b => by simp only [List.cons_append, eraseL, eraseL_append S a b]
theorem cl_flat {α : Type} {f : α → List SV} (h : Clean f) (S : St) (l : List α) : eraseL S (l.flatMap f) = l.flatMap f := by
  induction l with
  | nil => rfl
  | cons x r ih => simp only [List.flatMap_cons, eraseL_append, (h x).2, ih]
theorem rd_erase {α : Type} {f : α → List SV} (h : Clean f) {l : List α} {y : SV} (hy : Rd' f l y) (S : St) : erase S y = sl f l := by
  rcases hy with ⟨id, rfl⟩ | ⟨rfl, rfl | rfl⟩
  · simp only [erase, cl_flat h]; rfl
  · rfl
  · rfl
theorem rd_ws {α : Type} {f : α → List SV} (h : Clean f) {l : List α} {y : SV} (hy : Rd' f l y) : weak (shut y) = sl f l := by
  have hc := flat_clean f (fun x => (h x).1) l
  rcases hy with ⟨id, rfl⟩ | ⟨rfl, rfl | rfl⟩
  · simp only [shut, weak, hc.1, hc.2]; rfl
  · rfl
  · rfl
theorem sl_erase {α : Type} {f : α → List SV} (h : Clean f) (l : List α) (S : St) : erase S (sl f l) = sl f l := rd_erase h (rd_sl f l) S
/-- A list that grows, in boxes from lo on. -/
def AccL {α : Type} (f : α → List SV) (sz lo : Nat) (l : List α) (y : SV) (S : St) : Prop :=
  S.floor ≤ S.next ∧ lo ≤ S.next ∧ ((l = [] ∧ y = .v (.slice none 0 0)) ∨ ∃ b, y = .sl (some b) l.length (l.flatMap f) ∧ S.get b = .own sz (l.length * sz) ∧ lo ≤ b ∧ b < S.next ∧ S.floor ≤ b)
theorem accL0 {α : Type} (f : α → List SV) (sz lo : Nat) {S : St} (h : S.floor ≤ S.next) (hl : lo ≤ S.next) : AccL f sz lo ([] : List α) (.v (.slice none 0 0)) S := ⟨h, hl, .inl ⟨rfl, rfl⟩⟩
theorem accL_rd {α : Type} {f : α → List SV} {sz lo : Nat} {l : List α} {y : SV} {S : St} (h : AccL f sz lo l y S) : Rd' f l y := by
  rcases h.2.2 with ⟨rfl, rfl⟩ | ⟨b, rfl, _⟩
  · exact .inr ⟨rfl, .inl rfl⟩
  · exact .inl ⟨some b, rfl⟩
theorem accL_keep {α : Type} {f : α → List SV} {sz lo : Nat} {l : List α} {y : SV} {S S' : St} (h : AccL f sz lo l y S) (hf : S'.floor = S.floor) (hn : S.next ≤ S'.next) (hg : ∀ b, lo ≤ b → b < S.next → S'.get b = S.get b) : AccL f sz lo l y S' := by
  obtain ⟨h0, h1, h⟩ := h
  refine ⟨by omega, by omega, ?_⟩
  rcases h with h | ⟨b, e, g, b1, b2, b3⟩
  · exact .inl h
  · exact .inr ⟨b, e, by rw [hg b b1 b2, g], b1, by omega, by omega⟩
theorem accL_box {α : Type} {f : α → List SV} {sz lo : Nat} {l : List α} {y : SV} {S : St} (h : AccL f sz lo l y S) (z o : SObj) : AccL f sz lo l y (boxed S z o) :=
  accL_keep h rfl (by rw [boxed_next]; omega) fun b _ hb => boxed_get S z o b hb
theorem accL_single {α : Type} {f : α → List SV} {sz lo : Nat} {l : List α} {y : SV} {S : St} (h : AccL f sz lo l y S) : single y = true := by
  rcases h.2.2 with ⟨_, rfl⟩ | ⟨b, rfl, _⟩ <;> rfl

/-- One more. -/
theorem accL_append {α : Type} {f : α → List SV} {k : K} {t e : TypeId} {sz by_ : Nat} (hfl : ∀ x, (f x).length = sz) {z : List SV} (he : elem? k t = some e) (hs : size? k e = some sz) (hb : bytes? k e = some by_) (hz : zero? k e = some z) (h0 : sz ≠ 0) (h1 : by_ ≠ 0) (h2 : z.length = sz) (hbx : k.inBox e ≠ 1)
    {lo : Nat} {l : List α} {y : SV} {S : St} (h : AccL f sz lo l y S) (x : α) (hr : (l.length + 1) * by_ ≤ room) :
    ∃ y' S', appendE k t y (.sl (some S.next) 1 (f x)) (S.alloc (.own sz sz)) = some (y', S') ∧ AccL f sz lo (l ++ [x]) y' S' ∧ S'.floor = S.floor ∧ S.next < S'.next ∧ (∀ b, b < lo → S'.get b = S.get b) ∧ ∀ c, c < S.next → (∀ m, S.get c ≠ .own sz m) → S'.get c = S.get c := by
  obtain ⟨hf, hlo, h⟩ := h
  have hx := hfl x
  have hcl : (l.flatMap f).length = l.length * sz := flatMap_len f sz hfl l
  rcases h with ⟨rfl, rfl⟩ | ⟨b, rfl, hg, hbl, hbn, hbf⟩
  · refine ⟨.sl (some (S.next + 1)) 1 (f x), (S.alloc (.own sz sz)).alloc (.own sz (f x).length), ?_, ⟨?_, ?_, .inr ⟨S.next + 1, by simp, ?_, ?_, ?_, ?_⟩⟩, rfl, ?_, ?_, ?_⟩
    · simp only [appendE, he, hs, hb, hz, srcCells, Option.bind_some, hx]
      simp [h0, h1, h2, hbx]
      have : by_ ≤ room := by simpa using hr
      simp [this]
      exact ⟨rfl, by rw [hx]⟩
    · simp [St.alloc]; omega
    · simp [St.alloc]; omega
    · simp [St.alloc, hx]
    · omega
    · simp [St.alloc]
    · simp [St.alloc]; omega
    · simp [St.alloc]; omega
    · intro b hb
      rw [get_new _ _ _ (by simp [St.alloc]; omega), get_new _ _ _ (by omega)]
    · intro c hc _
      rw [get_new _ _ _ (by simp [St.alloc]; omega), get_new _ _ _ (by omega)]
  · have hgb : (S.alloc (.own sz sz)).get b = .own sz (l.length * sz) := by rw [get_new _ _ _ hbn]; exact hg
    refine ⟨.sl (some (S.next + 1)) (l.length + 1) (l.flatMap f ++ f x), ((S.alloc (.own sz sz)).put b .dead).alloc (.own sz ((l.flatMap f).length + (f x).length)), ?_, ⟨?_, ?_, .inr ⟨S.next + 1, by simp, ?_, ?_, ?_, ?_⟩⟩, rfl, ?_, ?_, ?_⟩
    · simp only [appendE, he, hs, hb, hz, srcCells, Option.bind_some, hx, hgb]
      have hfl' : (S.alloc (SObj.own sz sz)).floor ≤ b := hbf
      simp [h0, h1, h2, hbx, hfl']
      have hcl2 : (l.map fun a => (f a).length).sum = l.length * sz := by rw [← hcl, List.length_flatMap]
      simp [hcl2, hr, hx]
      try rfl
    · simp [St.alloc, St.put]; omega
    · simp [St.alloc, St.put]; omega
    · simp only [St.alloc, St.put, hcl, hx, List.length_append, List.length_singleton, Nat.add_mul, Nat.one_mul, if_true]
    · omega
    · simp [St.alloc, St.put]
    · simp [St.alloc, St.put]; omega
    · simp [St.alloc, St.put]; omega
    · intro c hc
      rw [get_new _ _ _ (by simp [St.alloc, St.put]; omega), get_put _ _ _ _ (by omega), get_new _ _ _ (by omega)]
    · intro c hc hne
      have : c ≠ b := by rintro rfl; exact hne _ hg
      rw [get_new _ _ _ (by simp [St.alloc, St.put]; omega), get_put _ _ _ _ this, get_new _ _ _ (by omega)]

/-! Loops. -/
theorem iter_inv (ex : Nat) {F : List SV → St → Option (Ex × List SV × St)} (n : Nat) (I : Nat → List SV → St → Prop)
    (hstep : ∀ i, i < n → ∀ vs S, I i vs S → ∃ vs' S', F vs S = some (.normal, vs', S') ∧ I (i + 1) vs' S')
    (hend : ∀ vs S, I n vs S → F vs S = some (.exit ex, vs, S)) :
    ∀ (m i : Nat), m + i = n → ∀ vs S M, I i vs S → m < M → ∃ vs' S', iter F M vs S = some (.exit ex, vs', S') ∧ I n vs' S'
  | 0, i, hi, vs, S, M, hI, hM => by
    obtain ⟨M, rfl⟩ : ∃ m, M = m + 1 := ⟨M - 1, by omega⟩
    have : i = n := by omega
    subst this
    exact ⟨vs, S, iter_exit (hend vs S hI), hI⟩
  | m + 1, i, hi, vs, S, M, hI, hM => by
    obtain ⟨M, rfl⟩ : ∃ m, M = m + 1 := ⟨M - 1, by omega⟩
    obtain ⟨vs', S', h1, h2⟩ := hstep i (by omega) vs S hI
    obtain ⟨vs2, S2, h3, h4⟩ := iter_inv ex n I hstep hend m (i + 1) (by omega) vs' S' M h2 (by omega)
    exact ⟨vs2, S2, by rw [iter_normal h1]; exact h3, h4⟩

/-- The same, with a way out. -/
theorem iter_invR (ex : Nat) {F : List SV → St → Option (Ex × List SV × St)} (n : Nat) (I : Nat → List SV → St → Prop) (R : List SV → St → Prop)
    (hstep : ∀ i, i < n → ∀ vs S, I i vs S → (∃ vs' S', F vs S = some (.normal, vs', S') ∧ I (i + 1) vs' S') ∨ (∃ vs' S', F vs S = some (.ret, vs', S') ∧ R vs' S'))
    (hend : ∀ vs S, I n vs S → F vs S = some (.exit ex, vs, S)) :
    ∀ (m i : Nat), m + i = n → ∀ vs S M, I i vs S → m < M → (∃ vs' S', iter F M vs S = some (.exit ex, vs', S') ∧ I n vs' S') ∨ (∃ vs' S', iter F M vs S = some (.ret, vs', S') ∧ R vs' S')
  | 0, i, hi, vs, S, M, hI, hM => by
    obtain ⟨M, rfl⟩ : ∃ m, M = m + 1 := ⟨M - 1, by omega⟩
    have : i = n := by omega
    subst this
    exact .inl ⟨vs, S, iter_exit (hend vs S hI), hI⟩
  | m + 1, i, hi, vs, S, M, hI, hM => by
    obtain ⟨M, rfl⟩ : ∃ m, M = m + 1 := ⟨M - 1, by omega⟩
    rcases hstep i (by omega) vs S hI with ⟨vs', S', h1, h2⟩ | ⟨vs', S', h1, h2⟩
    · rcases iter_invR ex n I R hstep hend m (i + 1) (by omega) vs' S' M h2 (by omega) with ⟨vs2, S2, h3, h4⟩ | ⟨vs2, S2, h3, h4⟩
      · exact .inl ⟨vs2, S2, by rw [iter_normal h1]; exact h3, h4⟩
      · exact .inr ⟨vs2, S2, by rw [iter_normal h1]; exact h3, h4⟩
    · exact .inr ⟨vs', S', iter_ret h1, h2⟩

/-! How blocks of trees lie. -/
def wc (p : Int × Tree) : List SV := .v (.int .i64 p.1) :: p.2.cells
theorem wc_len (p : Int × Tree) : (wc p).length = 12 := by simp [wc, Tree.cells_len]
def w98 (p : Int × Tree) : T98 := ⟨p.1, p.2.a.tmp, p.2.a.ty, p.2.a.c0, p.2.a.c1, p.2.a.c2, p.2.a.c3, p.2.kind, p.2.ty, p.2.op, p.2.off, sl Tree.cells p.2.l⟩
theorem w98_enc (p : Int × Tree) : (w98 p).enc = wc p := by
  obtain ⟨n, a, kind, ty, op, off, l⟩ := p
  simp [w98, T98.enc, wc, Tree.cells, Tree.t37, T37.enc, Tree.a, Tree.kind, Tree.ty, Tree.op, Tree.off, Tree.l, sl, cellsT_eq]
def TStmt.t59 (s : TStmt) : T59 := ⟨s.kind, s.tmp, s.off, s.n, s.jump, s.addr, s.to_, s.e.a.tmp, s.e.a.ty, s.e.a.c0, s.e.a.c1, s.e.a.c2, s.e.a.c3, s.e.kind, s.e.ty, s.e.op, s.e.off, sl Tree.cells s.e.l, sl Tree.cells s.l⟩
def tsc (s : TStmt) : List SV := s.t59.enc
theorem tsc_len (s : TStmt) : (tsc s).length = 19 := rfl
def TBlock.t39 (b : TBlock) : T39 := ⟨nums b.tmps, sl tsc b.l, b.next.a.tmp, b.next.a.ty, b.next.a.c0, b.next.a.c1, b.next.a.c2, b.next.a.c3, b.next.kind, b.next.ty, b.next.op, b.next.off, sl Tree.cells b.next.l, b.jump, spanl b.spans⟩
theorem t37_eq (t : Tree) : t.t37 = ⟨t.a.tmp, t.a.ty, t.a.c0, t.a.c1, t.a.c2, t.a.c3, t.kind, t.ty, t.op, t.off, sl Tree.cells t.l⟩ := by
  cases t; simp [Tree.t37, Tree.a, Tree.kind, Tree.ty, Tree.op, Tree.off, Tree.l, sl, cellsT_eq]
theorem cells_eq (t : Tree) : t.cells = [.v (.int .i64 t.a.tmp), .v (.int .i64 t.a.ty), .v (.int .u32 t.a.c0), .v (.int .u32 t.a.c1), .v (.int .u32 t.a.c2), .v (.int .u32 t.a.c3), .v (.int .i64 t.kind), .v (.int .i64 t.ty), .v (.int .i64 t.op), .v (.int .i64 t.off), sl Tree.cells t.l] := by
  rw [Tree.cells, t37_eq]; rfl

theorem tree_erase : ∀ (t : Tree) (S : St), eraseL S t.cells = t.cells := by
  intro t S
  induction t using Tree.ind with
  | h a k ty op off l ih =>
    have hl : eraseL S (l.flatMap Tree.cells) = l.flatMap Tree.cells := by
      induction l with
      | nil => rfl
      | cons t r ihr =>
        simp only [List.flatMap_cons, eraseL_append]
        rw [ih t (by simp), ihr fun t ht => ih t (by simp [ht])]
    rw [cells_eq]
    simp only [Tree.a, Tree.kind, Tree.ty, Tree.op, Tree.off, Tree.l, sl, eraseL, erase, weakV, hl]
theorem cl_tree : Clean Tree.cells := fun t => ⟨tree_clean t, tree_erase t⟩
theorem cl_ic (q : IntKind) : Clean (ic q) := fun x => ⟨⟨rfl, rfl⟩, fun _ => rfl⟩
theorem cl_ac : Clean ac := fun x => ⟨⟨rfl, rfl⟩, fun _ => rfl⟩
theorem cl_pc : Clean pc := fun x => ⟨⟨rfl, rfl⟩, fun _ => rfl⟩
theorem cl_wc : Clean wc := fun p => ⟨⟨by simp only [wc, shutL, shut, (tree_clean p.2).1], by simp only [wc, weakL, weak, weakV, (tree_clean p.2).2]⟩, fun S => by simp only [wc, eraseL, erase, weakV, tree_erase]⟩
theorem sl_shut {α : Type} {f : α → List SV} (h : Clean f) (l : List α) : shut (sl f l) = sl f l ∧ weak (sl f l) = sl f l := sl_ws f (fun x => (h x).1) l
theorem cl_tsc : Clean tsc := fun s => by
  have h1 := sl_shut cl_tree s.e.l
  have h2 := sl_shut cl_tree s.l
  refine ⟨⟨?_, ?_⟩, fun S => ?_⟩
  · simp only [tsc, T59.enc, TStmt.t59, shutL, shut, h1.1, h2.1]
  · simp only [tsc, T59.enc, TStmt.t59, weakL, weak, weakV, h1.2, h2.2]
  · simp only [tsc, T59.enc, TStmt.t59, eraseL, erase, weakV, sl_erase cl_tree]
theorem tstmt_ws (s : TStmt) : weak (shut (.agg s.t59.enc)) = .agg s.t59.enc := by
  have := (cl_tsc s).1
  unfold tsc at this
  simp only [shut, weak, this.1, this.2]
theorem openCp59' {Z : Type} (s : TStmt) (K : cd59.α → Option Z) : openCp cd59 (.cp (tsc s)) K = K s.t59 := rfl
theorem openCp37' {Z : Type} (t : Tree) (K : cd37.α → Option Z) : openCp cd37 (.cp t.cells) K = K t.t37 := rfl
theorem openAgg37' {Z : Type} (t : Tree) (K : cd37.α → Option Z) : openAgg cd37 (.agg t.cells) K = K t.t37 := rfl
theorem openAgg59' {Z : Type} (s : TStmt) (K : cd59.α → Option Z) : openAgg cd59 (.agg (tsc s)) K = K s.t59 := rfl
theorem size98 : (Tryz.prog.info? 98).map (·.size) = some 12 := by kernel_rfl
end Go.Sv
end
section
namespace Go.Sv
open Go Go.Proofs
set_option linter.all false
set_option maxRecDepth 1000000
set_option maxHeartbeats 0
end Go.Sv
end
section
namespace Go.Sv
open Go Go.Proofs Go.Proofs.YtkflapebfmcmaaaGreat
set_option linter.all false
set_option maxRecDepth 100000

/-! The reference of the trees (ref16), function by function. -/
theorem tup2_erase {x y x' y' : SV} {S : St} (hx : erase S x = x') (hy : erase S y = y') : erase S (.tuple [x, y]) = .tuple [x', y'] := by simp only [erase, eraseL, hx, hy]

theorem leaf_cells (a : Atom) : [(SV.v (.int .i64 a.tmp)), (.v (.int .i64 a.ty)), (.v (.int .u32 a.c0)), (.v (.int .u32 a.c1)), (.v (.int .u32 a.c2)), (.v (.int .u32 a.c3)), (.v (.int .i64 (0 : Int))), (.v (.int .i64 (0 : Int))), (.v (.int .i64 (0 : Int))), (.v (.int .i64 (0 : Int))), sl Tree.cells []] = (leafT a).cells := by
  rw [cells_eq]; rfl
mutual
/-- Every node's list is of a size. -/
def TB : Tree → Prop
  | .mk _ _ _ _ _ l => l.length ≤ 1000000 ∧ TBl l
def TBl : List Tree → Prop
  | [] => True
  | t :: r => TB t ∧ TBl r
end
theorem TBl_mem : ∀ {l : List Tree}, TBl l → ∀ t ∈ l, TB t
  | x :: r, h, t, ht => by
    rw [TBl] at h
    rcases List.mem_cons.1 ht with rfl | ht
    · exact h.1
    · exact TBl_mem h.2 t ht
theorem TBl_of : ∀ {l : List Tree}, (∀ t ∈ l, TB t) → TBl l
  | [], _ => by rw [TBl]; trivial
  | t :: r, h => by rw [TBl]; exact ⟨h t (by simp), TBl_of fun x hx => h x (by simp [hx])⟩

/-! has, gets. -/
def w64 (a : Int) : Int := IntKind.wrap .i64 a
end Go.Sv
end
section
namespace Go.Sv
open Go Go.Proofs Go.Proofs.YtkflapebfmcmaaaGreat
set_option linter.all false
set_option maxRecDepth 100000

theorem accL_frame {α : Type} {f : α → List SV} {sz lo : Nat} {l : List α} {y : SV} {S S' : St} (h : AccL f sz lo l y S) (hf : S'.floor = S.floor) (hn : S.next ≤ S'.next) (hg : ∀ c, c < S.next → S.get c = .own sz (l.length * sz) → S'.get c = S.get c) : AccL f sz lo l y S' := by
  obtain ⟨h0, h1, h⟩ := h
  refine ⟨by omega, by omega, ?_⟩
  rcases h with h | ⟨b, e, g, b1, b2, b3⟩
  · exact .inl h
  · exact .inr ⟨b, e, by rw [hg b b2 g, g], b1, by omega, by omega⟩

def etyM (k ty op off : Int) (ts : List Int) : Int := exprTyM ts ⟨k, ty, op, off, nbs ts.length⟩
/-- A closed call sees of its arguments what they say without the state. -/
theorem closed_congr {f : FuncId} {args args' : List SV} (hp : kt.prim f = none) (hm : kt.mode f = 3) (h : args.map (fun x => weak (shut x)) = args'.map fun x => weak (shut x)) (S : St) : run kt (.func f [] []) args S = run kt (.func f [] []) args' S := by
  have hl : ∀ n, lvl kt n (.func f [] []) args S = lvl kt n (.func f [] []) args' S := by
    intro n
    cases n with
    | zero => rfl
    | succ n =>
      simp only [lvl, hp, hm, List.nil_append, List.append_nil, h, show ¬ (3 : Nat) = 0 by decide, if_false, if_true]
  cases h1 : run kt (.func f [] []) args' S with
  | some r => exact run_iff.2 (by obtain ⟨n, hn⟩ := run_iff.1 h1; exact ⟨n, by rw [hl]; exact hn⟩)
  | none =>
    cases h2 : run kt (.func f [] []) args S with
    | none => rfl
    | some r =>
      have : run kt (.func f [] []) args' S = some r := run_iff.2 (by obtain ⟨n, hn⟩ := run_iff.1 h2; exact ⟨n, by rw [← hl]; exact hn⟩)
      rw [h1] at this; cases this
theorem nums_is (l : List Int) : nums l = sl (ic .i64) l := rfl

end Go.Sv
end
section
namespace Go.Sv
open Go Go.Proofs Go.Proofs.YtkflapebfmcmaaaGreat
set_option linter.all false
set_option maxRecDepth 100000

/-- A statement's trees are of a size. -/
def TBs (s : TStmt) : Prop := TB s.e ∧ ∀ t ∈ s.l, TB t
def distM (tmps : List Int) (s : TStmt) (t : Tree) : Bool := distR bytesM w64 (hasM 5 s.e) s.kind s.off (bytesM (headTy (fun t => typR (atomTy tmps) etyM t false) s)) t

theorem tstmt_e (s : TStmt) : [(SV.v (.int .i64 s.t59.e_A_Tmp)), (.v (.int .i64 s.t59.e_A_Ty)), (.v (.int .u32 s.t59.e_A_C0)), (.v (.int .u32 s.t59.e_A_C1)), (.v (.int .u32 s.t59.e_A_C2)), (.v (.int .u32 s.t59.e_A_C3)), (.v (.int .i64 s.t59.e_Kind)), (.v (.int .i64 s.t59.e_Ty)), (.v (.int .i64 s.t59.e_Op)), (.v (.int .i64 s.t59.e_Off)), s.t59.e_L] = s.e.cells := by
  rw [cells_eq]; rfl

/-! How often a temporary is used. -/
def cntA (l : List Atom) (t : Int) : Nat := (l.filter fun a => a.tmp == t).length
def usesM (b : Block) (t : Int) : Int := ((b.l.map fun s => cntA (s.e.l ++ s.l) t).sum : Int) + if b.next.tmp = t then 1 else 0
theorem cntA_le (l : List Atom) (t : Int) : cntA l t ≤ l.length := List.length_filter_le _ _
theorem cntA_append (l m : List Atom) (t : Int) : cntA (l ++ m) t = cntA l t + cntA m t := by simp [cntA]

theorem sum_cast (l : List Nat) : ((l.sum : Nat) : Int) = (l.map fun (x : Nat) => (x : Int)).sum := by
  induction l with
  | nil => rfl
  | cons x r ih => simp [ih]

end Go.Sv
end
section
namespace Go.Sv
open Go Go.Proofs Go.Proofs.YtkflapebfmcmaaaGreat
set_option linter.all false
set_option maxRecDepth 100000

theorem bytesU {x : Option Nat} (h : x.map (fun n => decide (n ≠ 0 ∧ n ≤ 1000)) = some true) : ∃ n, x = some n ∧ n ≠ 0 ∧ n ≤ 1000 := by
  cases x with
  | none => cases h
  | some n => exact ⟨n, rfl, of_decide_eq_true (by simpa using h)⟩
theorem sz98 {k : K} (hP : k.P = Tryz.prog) : size? k 98 = some 12 := size_of hP size98
theorem sz37' {k : K} (hP : k.P = Tryz.prog) : size? k 37 = some 11 := size_of hP size37
theorem takenR_len (l : List Atom) : ∀ w, (takenR l w).1.length = l.length ∧ (takenR l w).2.length ≤ w.length := by
  induction l with
  | nil => intro w; exact ⟨rfl, Nat.le_refl _⟩
  | cons x r ih =>
    intro w
    simp only [takenR]
    refine ⟨by rw [List.length_cons, (ih _).1, List.length_cons], Nat.le_trans (ih _).2 ?_⟩
    unfold pickR
    exact List.length_filter_le _ _

end Go.Sv
end
section
namespace Go.Sv
open Go Go.Proofs Go.Proofs.YtkflapebfmcmaaaGreat
set_option linter.all false
set_option maxRecDepth 100000

def z59 : List SV := [(.v (.int .i64 (0 : Int))), (.v (.int .i64 (0 : Int))), (.v (.int .i64 (0 : Int))), (.v (.int .i64 (0 : Int))), (.v (.int .i64 (0 : Int))), (.v (.int .u32 (0 : Int))), (.v (.int .u32 (0 : Int))), (.v (.int .i64 (0 : Int))), (.v (.int .i64 (0 : Int))), (.v (.int .u32 (0 : Int))), (.v (.int .u32 (0 : Int))), (.v (.int .u32 (0 : Int))), (.v (.int .u32 (0 : Int))), (.v (.int .i64 (0 : Int))), (.v (.int .i64 (0 : Int))), (.v (.int .i64 (0 : Int))), (.v (.int .i64 (0 : Int))), (.v (.slice none 0 0)), (.v (.slice none 0 0))]
theorem sz59 {k : K} (hP : k.P = Tryz.prog) : size? k 59 = some 19 := size_of hP size59'
theorem ldN {k : K} {t sz : Nat} (ha : agg? k t = some true) (hs : size? k t = some sz) {S : St} {b : Nat} {cs : List SV} (hg : S.get b = .cells cs) (hl : cs.length = sz) : loadE k t (.ptr b 0) S = some (.agg cs) := by
  simp only [loadE, ha, hs, Option.bind_some, hg, objCells, takeVal, List.drop_zero, if_true]
  rw [if_pos (by omega), ← hl, List.take_length]
theorem ag35' {k : K} (hP : k.P = Tryz.prog) : agg? k 35 = some false := by unfold agg?; rw [hP, Tryz.underlying35]
theorem sz35' {k : K} (hP : k.P = Tryz.prog) : size? k 35 = some 1 := size_of hP (by kernel_rfl)
end Go.Sv
end
section
namespace Go.Sv
open Go Go.Proofs
set_option linter.all false
set_option maxRecDepth 1000000
set_option maxHeartbeats 0
def h16 : H := { hh with live := fun b => match b with | 0 => [(4, 2), (5, 1)] | 2 => [(4, 2), (6, 1)] | 4 => [(4, 2), (7, 1)] | _ => [], keep := fun b => match b with | 8 => some [(47, 2)] | _ => none }
end Go.Sv
end
section
namespace Go.Sv
open Go Go.Proofs Go.Proofs.YtkflapebfmcmaaaGreat
set_option linter.all false
set_option maxRecDepth 100000

/-! Build of the reference. -/
def zTB : TBlock := ⟨[], [], zT, 0, []⟩
def stB (b : Block) (l : List Stmt) : List TStmt × Wt := l.foldl (stepB (distM b.tmps) stmtR (usesM b)) ([], [])
def buildR (b : Block) : TBlock × Int :=
  if errB b ≠ 0 then (zTB, 7) else (⟨b.tmps, (stB b b.l).1, (pickR b.next.tmp (leafT b.next) (stB b b.l).2).1, b.jump, b.spans⟩, 0)

def z39 : List SV := [(.v (.slice none 0 0)), (.v (.slice none 0 0)), (.v (.int .i64 (0 : Int))), (.v (.int .i64 (0 : Int))), (.v (.int .u32 (0 : Int))), (.v (.int .u32 (0 : Int))), (.v (.int .u32 (0 : Int))), (.v (.int .u32 (0 : Int))), (.v (.int .i64 (0 : Int))), (.v (.int .i64 (0 : Int))), (.v (.int .i64 (0 : Int))), (.v (.int .i64 (0 : Int))), (.v (.slice none 0 0)), (.v (.int .i64 (0 : Int))), (.v (.slice none 0 0))]
def o39 (tm sp yL : SV) (j : Int) : List SV := [tm, yL, (.v (.int .i64 (0 : Int))), (.v (.int .i64 (0 : Int))), (.v (.int .u32 (0 : Int))), (.v (.int .u32 (0 : Int))), (.v (.int .u32 (0 : Int))), (.v (.int .u32 (0 : Int))), (.v (.int .i64 (0 : Int))), (.v (.int .i64 (0 : Int))), (.v (.int .i64 (0 : Int))), (.v (.int .i64 (0 : Int))), (.v (.slice none 0 0)), (.v (.int .i64 j)), sp]
theorem sz39 {k : K} (hP : k.P = Tryz.prog) : size? k 39 = some 15 := size_of hP (by kernel_rfl)
theorem ag34 {k : K} (hP : k.P = Tryz.prog) : agg? k 34 = some false := by unfold agg?; rw [hP, Tryz.underlying34]
theorem sz34 {k : K} (hP : k.P = Tryz.prog) : size? k 34 = some 1 := size_of hP (by kernel_rfl)

theorem pick_TB {n : Int} {t0 : Tree} (h0 : TB t0) : ∀ {w : Wt}, (∀ p ∈ w, TB p.2) → TB (pickR n t0 w).1 := by
  intro w h
  rcases pick_mem (n := n) (t0 := t0) (w := w) with e | ⟨p, hp, e⟩
  · rw [e]; exact h0
  · rw [e]; exact h p hp
theorem leaf_TB (a : Atom) : TB (leafT a) := by
  unfold leafT; rw [TB]; exact ⟨by simp, by rw [TBl]; trivial⟩
theorem taken_TB : ∀ (l : List Atom) (w : Wt), (∀ p ∈ w, TB p.2) → (∀ t ∈ (takenR l w).1, TB t) ∧ ∀ p ∈ (takenR l w).2, TB p.2 ∧ p ∈ w
  | [], w, h => ⟨fun t ht => by simp [takenR] at ht, fun p hp => ⟨h p hp, hp⟩⟩
  | a :: r, w, h => by
    have h1 : ∀ p ∈ (pickR a.tmp (leafT a) w).2, TB p.2 := fun p hp => h p (List.mem_filter.1 hp).1
    obtain ⟨i1, i2⟩ := taken_TB r _ h1
    refine ⟨fun t ht => ?_, fun p hp => ⟨(i2 p hp).1, (List.mem_filter.1 (i2 p hp).2).1⟩⟩
    simp only [takenR] at ht
    rcases List.mem_cons.1 ht with rfl | ht
    · exact pick_TB (leaf_TB a) h
    · exact i1 t ht
theorem stmtR_TB {s : Stmt} (h1 : s.l.length ≤ 1000000) (h2 : s.e.l.length ≤ 1000000) {w : Wt} (h : ∀ p ∈ w, TB p.2) : TBs (stmtR s w).1 ∧ (∀ p ∈ (stmtR s w).2, TB p.2) ∧ (stmtR s w).2.length ≤ w.length := by
  unfold stmtR
  split
  · have := taken_TB s.e.l w h
    refine ⟨⟨?_, fun t ht => by simp [bareT] at ht⟩, fun p hp => (this.2 p hp).1, (takenR_len s.e.l w).2⟩
    show TB (nodeT s.e (takenR s.e.l w).1)
    unfold nodeT; rw [TB]
    exact ⟨by rw [(takenR_len s.e.l w).1]; exact h2, TBl_of this.1⟩
  · have := taken_TB s.l w h
    exact ⟨⟨leaf_TB zA, this.1⟩, fun p hp => (this.2 p hp).1, (takenR_len s.l w).2⟩
theorem stmtR_kind (s : Stmt) (w : Wt) : (stmtR s w).1.kind = s.kind ∧ (stmtR s w).1.tmp = s.tmp ∧ (s.kind = 2 → (stmtR s w).1.e.kind = s.e.kind) ∧ (s.kind ≠ 2 → (stmtR s w).1.l.length = s.l.length) := by
  unfold stmtR
  split
  · exact ⟨rfl, rfl, fun _ => rfl, fun h => (h ‹_›).elim⟩
  · exact ⟨rfl, rfl, fun h => (‹¬ _› h).elim, fun _ => (takenR_len s.l w).1⟩

theorem stB_snoc (b : Block) (l : List Stmt) (s : Stmt) : stB b (l ++ [s]) = stepB (distM b.tmps) stmtR (usesM b) (stB b l) s := by simp [stB, List.foldl_append]
/-- What is put out and what waits are no more than the statements. -/
theorem stB_bnd (b : Block) (hB : ∀ s ∈ b.l, s.l.length ≤ 1000000 ∧ s.e.l.length ≤ 1000000) : ∀ i, i ≤ b.l.length → (stB b (b.l.take i)).1.length + (stB b (b.l.take i)).2.length ≤ i ∧ ∀ p ∈ (stB b (b.l.take i)).2, TB p.2 := by
  intro i
  induction i with
  | zero => intro _; rw [List.take_zero]; exact ⟨Nat.le_refl 0, fun p hp => by simp [stB] at hp⟩
  | succ i ih =>
    intro hi
    obtain ⟨h1, h2⟩ := ih (by omega)
    have hb := hB b.l[i] (List.getElem_mem (by omega))
    rw [List.take_succ_eq_append_getElem (by omega), stB_snoc]
    generalize stB b (b.l.take i) = c at h1 h2
    generalize b.l[i] = s at hb
    obtain ⟨g1, g2, g3⟩ := stmtR_TB hb.1 hb.2 h2
    have hsplit : ∀ (w : Wt) (q : Int × Tree → Bool), (w.filter q).length + (w.filter fun p => !q p).length = w.length := by
      intro w q
      induction w with
      | nil => rfl
      | cons p r ihr =>
        cases hq : q p <;> simp [List.filter_cons, hq] <;> omega
    have hs := hsplit (stmtR s c.2).2 fun p => distM b.tmps (stmtR s c.2).1 p.2
    unfold stepB
    simp only
    by_cases hc : s.kind = 2 ∧ usesM b s.tmp = 1 ∧ s.e.kind ≠ 1
    · rw [if_pos hc]
      refine ⟨by simp only [List.length_append, List.length_map, List.length_singleton]; omega, fun p hp => ?_⟩
      rcases List.mem_append.1 hp with hp | hp
      · exact g2 p (List.mem_filter.1 hp).1
      · simp only [List.mem_singleton] at hp; subst hp; exact g1.1
    · rw [if_neg hc]
      refine ⟨by simp only [List.length_append, List.length_map, List.length_singleton]; omega, fun p hp => ?_⟩
      exact g2 p (List.mem_filter.1 hp).1

end Go.Sv
end
section
namespace Go.Sv
open Go Go.Proofs Go.Proofs.YtkflapebfmcmaaaGreat
set_option linter.all false
set_option maxRecDepth 100000

/-- A statement's cells, its list of trees being nil. -/
def tscN (p : TStmt × Bool) : List SV := if p.2 = true then T59.enc { p.1.t59 with l := .v (.slice none 0 0) } else tsc p.1
/-- What was put out, and how it lies. -/
def RawS (raw : List (TStmt × Bool)) (out : List TStmt) : Prop := raw.map (·.1) = out ∧ ∀ q ∈ raw, q.2 = true → q.1.l = []
theorem RawS.snoc {raw : List (TStmt × Bool)} {out : List TStmt} (h : RawS raw out) (q : TStmt × Bool) (hq : q.2 = true → q.1.l = []) : RawS (raw ++ [q]) (out ++ [q.1]) :=
  ⟨by rw [List.map_append, h.1]; rfl, fun p hp => by
    rcases List.mem_append.1 hp with hp | hp
    · exact h.2 p hp
    · simp only [List.mem_singleton] at hp; subst hp; exact hq⟩
theorem splice15 (a0 a1 a2 a3 a4 a5 a6 a7 a8 a9 a10 a11 a12 a13 a14 : SV) : splice z39 0 [a0, a1, a2, a3, a4, a5, a6, a7, a8, a9, a10, a11, a12, a13, a14] = [a0, a1, a2, a3, a4, a5, a6, a7, a8, a9, a10, a11, a12, a13, a14] := rfl
theorem splice39 (t : T39) : splice z39 0 t.enc = t.enc := rfl

/-- The boxes of Build. -/
structure InvB (b : Block) (out : List TStmt) (S : St) : Prop where
  fl : S.floor = 0
  nx : 2 ≤ S.next
  c0 : S.get 0 = .cells z39
  c1 : ∃ yL raw, S.get 1 = .cells (o39 (nums b.tmps) (spanl b.spans) yL b.jump) ∧ RawS raw out ∧ AccL tscN 19 2 raw yL S

theorem filt_snoc (q : Int × Tree → Bool) (w : Wt) (p : Int × Tree) : (w ++ [p]).filter q = if q p = true then w.filter q ++ [p] else w.filter q := by
  rw [List.filter_append]
  cases h : q p <;> simp [List.filter_cons, h]

/-- The block is valid, and its statements are as they are. -/
theorem okB_facts {b : Block} (h : errB b = 0) : limB b ∧ (∀ s ∈ b.l, validM b.tmps s = true) ∧ ∃ D, chkL b.tmps [] b.l = some D ∧ endB b D = true := by
  unfold errB at h
  split at h
  · rename_i hok
    unfold okB at hok
    simp only [Bool.and_eq_true, decide_eq_true_eq] at hok
    refine ⟨hok.1, ?_, ?_⟩
    · cases hc : chkL b.tmps [] b.l with
      | none => rw [hc] at hok; exact absurd hok.2 (by simp)
      | some D =>
        have : ∀ (l : List Stmt) (D D' : List Int), chkL b.tmps D l = some D' → ∀ s ∈ l, validM b.tmps s = true := by
          intro l
          induction l with
          | nil => intro _ _ _ s hs; simp at hs
          | cons x r ih =>
            intro D D' hc s hs
            rw [chkL] at hc
            simp only [Option.bind_eq_some_iff] at hc
            obtain ⟨D1, h1, h2⟩ := hc
            rcases List.mem_cons.1 hs with rfl | hs
            · unfold stepC at h1
              split at h1
              · rename_i h; exact h.1
              · cases h1
            · exact ih D1 D' h2 s hs
        exact this _ _ _ hc
    · cases hc : chkL b.tmps [] b.l with
      | none => rw [hc] at hok; exact absurd hok.2 (by simp)
      | some D => rw [hc] at hok; exact ⟨D, rfl, hok.2⟩
  · cases h
theorem valid_put {tmps : List Int} {s : Stmt} (h : validM tmps s = true) (hk : s.kind = 3) : s.l.length = 1 := by
  unfold validM at h
  split at h
  · cases h
  · unfold validK at h
    simp [hk, typesM] at h
    exact h.1

end Go.Sv
end
section
namespace Go.Sv
open Go Go.Proofs
set_option linter.all false
set_option maxRecDepth 1000000
set_option maxHeartbeats 0
def h103 : H := { hh with live := fun b => match b with  | _ => [], keep := fun b => match b with  | _ => none }
theorem tell103 (N : Nat) (n0 : Nat) (k0 : List SV) (u1 : T37) : cBody (kt.at 103) h103 (run kt) N (compF Tryz.f103) [.sl none n0 k0, .agg u1.enc] St0 = (splitB (.v (.bool (u1.kind == (0 : Int))))
 ((run kt (.func 119 [] []) [(.sl none n0 k0), (.agg [(.v (.int .i64 u1.a_Tmp)), (.v (.int .i64 u1.a_Ty)), (.v (.int .u32 u1.a_C0)), (.v (.int .u32 u1.a_C1)), (.v (.int .u32 u1.a_C2)), (.v (.int .u32 u1.a_C3))])] St0).bind fun p0 => openInt p0.1 fun a1 => (some ((.v (.int .i64 a1)), p0.2)))
 ((run kt (.func 91 [] []) [u1.l, (.func 156 [] [(.cp [(.sl none n0 k0)])])] St0).bind fun p2 => (lenE (kt.at 103) 22 p2.1).bind fun r3 => openInt r3 fun a4 => (run kt (.func 149 [] []) [(.v (.int .i64 (0 : Int))), (.v (.int .i64 a4))] p2.2).bind fun p5 => (run kt (.func 132 [] []) [(.agg u1.enc), p5.1] p5.2).bind fun p6 => openAgg cd55 p6.1 fun t7 => (run kt (.func 157 [] []) [p2.1, (.agg t7.enc)] p6.2).bind fun p8 => openInt p8.1 fun a9 => (some ((.v (.int .i64 a9)), p8.2)))) := by kernel_rfl
theorem fn103 : fnsK 103 = some (compF Tryz.f103) := by kernel_rfl
def h156 : H := { hh with live := fun b => match b with  | _ => [], keep := fun b => match b with  | _ => none }
theorem tell156 (N : Nat) (u0 : T37) (n0 : Nat) (k0 : List SV) : cBody (kt.at 156) h156 (run kt) N (compF Tryz.f156) [.agg u0.enc, .cp [.sl none n0 k0]] St0 = (run kt (.func 103 [] []) [(.sl none n0 k0), (.agg u0.enc)] St0).bind fun p0 => openInt p0.1 fun a1 => (some ((.v (.int .i64 a1)), p0.2)) := by kernel_rfl
theorem fn156 : fnsK 156 = some (compF Tryz.f156) := by kernel_rfl
def h91 : H := { hh with live := fun b => match b with | 0 => [(5, 0), (10, 1)] | _ => [], keep := fun b => match b with  | _ => none }
theorem tell91 (N : Nat) (n0 : Nat) (k0 : List SV) (g1 : Nat) (f1 x1 : List SV) (S : St) : cBody (kt.at 91) h91 (run kt) N (compF Tryz.f91) [.sl none n0 k0, .func g1 f1 x1] S = (iter (fun vs0 S1 => openHd vs0 fun y2 r3 => openHd r3 fun y4 r5 => openInt y4 fun a6 => (splitB (.v (.bool (decide (a6 < ((n0 : Nat) : Int)))))
 ((indexAddrE (kt.at 91) 35 (.sl none n0 k0) (.v (.int .i64 a6))).bind fun r7 => openCp cd37 r7 fun t8 => storeK (kt.at 91) 37 (.ptr (St.next S1) 0) (.agg t8.enc) (St.alloc S1 (.cells [(.v (.int .i64 (0 : Int))), (.v (.int .i64 (0 : Int))), (.v (.int .u32 (0 : Int))), (.v (.int .u32 (0 : Int))), (.v (.int .u32 (0 : Int))), (.v (.int .u32 (0 : Int))), (.v (.int .i64 (0 : Int))), (.v (.int .i64 (0 : Int))), (.v (.int .i64 (0 : Int))), (.v (.int .i64 (0 : Int))), (.v (.slice none 0 0))])) fun S9 => (loadE (kt.at 91) 37 (.ptr (St.next S1) 0) S9).bind fun r10 => openAgg cd37 r10 fun t11 => (run kt (.func g1 f1 x1) [(.agg t11.enc)] S9).bind fun p12 => openInt p12.1 fun a13 => (appendE (kt.at 91) 22 y2 (.sl (some (St.next p12.2)) 1 [(.v (.int .i64 a13))]) (St.alloc p12.2 (.own 1 1))).bind fun p14 => (some (.normal, ([p14.1, (.v (.int .i64 (IntKind.wrap .i64 (a6 + (1 : Int)))))], p14.2))))
 ((some ((.exit 0), ([y2, (.v (.int .i64 a6))], S1)))))) N [(.v (.slice none 0 0)), (.v (.int .i64 (0 : Int)))] S).bind fun q15 => openHd q15.2.1 fun y16 r17 => openHd r17 fun y18 r19 => openInt y18 fun a20 => (exits q15.1 (fun i21 => (if i21 = 0 then (some (y16, q15.2.2)) else none)) ((some ((.v (.slice none 0 0)), q15.2.2)))) := by kernel_rfl
theorem fn91 : fnsK 91 = some (compF Tryz.f91) := by kernel_rfl
def h132 : H := { hh with live := fun b => match b with  | _ => [], keep := fun b => match b with  | _ => none }
theorem tell132 (N : Nat) (u0 : T37) (n1 : Nat) (k1 : List SV) : cBody (kt.at 132) h132 (run kt) N (compF Tryz.f132) [.agg u0.enc, .sl none n1 k1] St0 = (some ((.agg [(.v (.int .i64 u0.kind)), (.v (.int .i64 u0.ty)), (.v (.int .i64 u0.op)), (.v (.int .i64 u0.off)), (.sl none n1 k1)]), (St.put (St.alloc St0 (.cells [(.v (.int .i64 (0 : Int))), (.v (.int .i64 (0 : Int))), (.v (.int .i64 (0 : Int))), (.v (.int .i64 (0 : Int))), (.v (.slice none 0 0))])) 0 (.cells [(.v (.int .i64 u0.kind)), (.v (.int .i64 u0.ty)), (.v (.int .i64 u0.op)), (.v (.int .i64 u0.off)), (.sl none n1 k1)])))) := by kernel_rfl
theorem fn132 : fnsK 132 = some (compF Tryz.f132) := by kernel_rfl
def h149 : H := { hh with live := fun b => match b with | 0 => [(5, 0), (8, 1)] | _ => [], keep := fun b => match b with  | _ => none }
theorem tell149 (N : Nat) (u0 : Int) (u1 : Int) : cBody (kt.at 149) h149 (run kt) N (compF Tryz.f149) [.v (.int .i64 u0), .v (.int .i64 u1)] St0 = (iter (fun vs0 S1 => openHd vs0 fun y2 r3 => openHd r3 fun y4 r5 => openInt y4 fun a6 => (splitB (.v (.bool (decide (a6 < u1))))
 ((appendE (kt.at 149) 53 y2 (.sl (some (St.next S1)) 1 [(.v (.int .i64 (IntKind.wrap .i64 (u0 + a6)))), (.v (.int .i64 (0 : Int))), (.v (.int .u32 (0 : Int))), (.v (.int .u32 (0 : Int))), (.v (.int .u32 (0 : Int))), (.v (.int .u32 (0 : Int)))]) (St.alloc S1 (.own 6 6))).bind fun p7 => (some (.normal, ([p7.1, (.v (.int .i64 (IntKind.wrap .i64 (a6 + (1 : Int)))))], p7.2))))
 ((some ((.exit 0), ([y2, (.v (.int .i64 a6))], S1)))))) N [(.v (.slice none 0 0)), (.v (.int .i64 (0 : Int)))] St0).bind fun q8 => openHd q8.2.1 fun y9 r10 => openHd r10 fun y11 r12 => openInt y11 fun a13 => (exits q8.1 (fun i14 => (if i14 = 0 then (some (y9, q8.2.2)) else none)) ((some ((.v (.slice none 0 0)), q8.2.2)))) := by kernel_rfl
theorem fn149 : fnsK 149 = some (compF Tryz.f149) := by kernel_rfl
end Go.Sv
end
