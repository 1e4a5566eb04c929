/- Parts of the proofs of this seat's laws: an interpreter of the program's form, its soundness against the model, or what it answers on this program. -/
import Derived.Test.YtkflapebfmcmaaaGreatBBuilds40
import Derived.Test.YtkflapebfmcmaaaGreatBBuilds27
section
namespace Go.Sv
open Go Go.Proofs Go.Proofs.YtkflapebfmcmaaaGreat
set_option linter.all false
set_option maxRecDepth 100000

/-! Lists that are read. -/
def Rd' {α : Type} (f : α → List SV) (l : List α) (y : SV) : Prop := (∃ id, y = .sl id l.length (l.flatMap f)) ∨ (l = [] ∧ (y = .v (.slice none 0 0) ∨ y = .emp))
theorem rd_sl {α : Type} (f : α → List SV) (l : List α) : Rd' f l (sl f l) := .inl ⟨none, rfl⟩
theorem rd_len {k : K} {t e : TypeId} {α : Type} {f : α → List SV} (hP : k.P = Tryz.prog) (ht : Tryz.prog.underlying t = some (.slice e)) {l : List α} {y : SV} (h : Rd' f l y) : lenE k t y = some (.v (.int .i64 (l.length : Int))) := by
  rcases h with ⟨id, rfl⟩ | ⟨rfl, rfl | rfl⟩
  · rw [len_id]; exact len_sl hP ht f l
  · simp [lenE, elem_of hP ht]
  · simp [lenE, elem_of hP ht]
theorem rd_index {k : K} {t e sz : Nat} (hP : k.P = Tryz.prog) (ht : Tryz.prog.underlying t = some (.slice e)) (hs : (Tryz.prog.info? e).map (·.size) = some sz) {α : Type} {f : α → List SV} (hf : ∀ x, (f x).length = sz) {l : List α} {y : SV} (h : Rd' f l y) (i : Nat) (hi : i < l.length) (q : IntKind) :
    indexAddrE k t y (.v (.int q (i : Int))) = some (.cp (f l[i])) := by
  rcases h with ⟨id, rfl⟩ | ⟨rfl, _⟩
  · rw [index_id]; exact index_sl hP ht hs f hf l i hi q
  · simp at hi
/-- Cells that tell nothing of the state. -/
def Clean {α : Type} (f : α → List SV) : Prop := ∀ x, (shutL (f x) = f x ∧ weakL (f x) = f x) ∧ ∀ S, eraseL S (f x) = f x
theorem eraseL_append (S : St) : ∀ a b : List SV, eraseL S (a ++ b) = eraseL S a ++ eraseL S b
  | [], b => rfl
  | x :: a, b => by simp only [List.cons_append, eraseL, eraseL_append S a b]
theorem cl_flat {α : Type} {f : α → List SV} (h : Clean f) (S : St) (l : List α) : eraseL S (l.flatMap f) = l.flatMap f := by
  induction l with
  | nil => rfl
  | cons x r ih => simp only [List.flatMap_cons, eraseL_append, (h x).2, ih]
theorem rd_erase {α : Type} {f : α → List SV} (h : Clean f) {l : List α} {y : SV} (hy : Rd' f l y) (S : St) : erase S y = sl f l := by
  rcases hy with ⟨id, rfl⟩ | ⟨rfl, rfl | rfl⟩
  · simp only [erase, cl_flat h]; rfl
  · rfl
  · rfl
theorem rd_ws {α : Type} {f : α → List SV} (h : Clean f) {l : List α} {y : SV} (hy : Rd' f l y) : weak (shut y) = sl f l := by
  have hc := flat_clean f (fun x => (h x).1) l
  rcases hy with ⟨id, rfl⟩ | ⟨rfl, rfl | rfl⟩
  · simp only [shut, weak, hc.1, hc.2]; rfl
  · rfl
  · rfl
theorem sl_erase {α : Type} {f : α → List SV} (h : Clean f) (l : List α) (S : St) : erase S (sl f l) = sl f l := rd_erase h (rd_sl f l) S
theorem sl_wsC {α : Type} {f : α → List SV} (h : Clean f) (l : List α) : weak (shut (sl f l)) = sl f l := rd_ws h (rd_sl f l)
theorem acc_rd {α : Type} {f : α → List SV} {sz : Nat} {l : List α} {y : SV} {S : St} (h : Acc sz l.length (l.flatMap f) y S) : Rd' f l y := by
  rcases h.2 with ⟨h0, h1, rfl⟩ | ⟨b, rfl, _⟩
  · exact .inr ⟨List.eq_nil_of_length_eq_zero h0, .inl rfl⟩
  · exact .inl ⟨some b, rfl⟩

/-- A list that grows, in boxes from lo on. -/
def AccL {α : Type} (f : α → List SV) (sz lo : Nat) (l : List α) (y : SV) (S : St) : Prop :=
  S.floor ≤ S.next ∧ lo ≤ S.next ∧ ((l = [] ∧ y = .v (.slice none 0 0)) ∨ ∃ b, y = .sl (some b) l.length (l.flatMap f) ∧ S.get b = .own sz (l.length * sz) ∧ lo ≤ b ∧ b < S.next ∧ S.floor ≤ b)
theorem accL0 {α : Type} (f : α → List SV) (sz lo : Nat) {S : St} (h : S.floor ≤ S.next) (hl : lo ≤ S.next) : AccL f sz lo ([] : List α) (.v (.slice none 0 0)) S := ⟨h, hl, .inl ⟨rfl, rfl⟩⟩
theorem accL_rd {α : Type} {f : α → List SV} {sz lo : Nat} {l : List α} {y : SV} {S : St} (h : AccL f sz lo l y S) : Rd' f l y := by
  rcases h.2.2 with ⟨rfl, rfl⟩ | ⟨b, rfl, _⟩
  · exact .inr ⟨rfl, .inl rfl⟩
  · exact .inl ⟨some b, rfl⟩
theorem accL_keep {α : Type} {f : α → List SV} {sz lo : Nat} {l : List α} {y : SV} {S S' : St} (h : AccL f sz lo l y S) (hf : S'.floor = S.floor) (hn : S.next ≤ S'.next) (hg : ∀ b, lo ≤ b → b < S.next → S'.get b = S.get b) : AccL f sz lo l y S' := by
  obtain ⟨h0, h1, h⟩ := h
  refine ⟨by omega, by omega, ?_⟩
  rcases h with h | ⟨b, e, g, b1, b2, b3⟩
  · exact .inl h
  · exact .inr ⟨b, e, by rw [hg b b1 b2, g], b1, by omega, by omega⟩
theorem accL_box {α : Type} {f : α → List SV} {sz lo : Nat} {l : List α} {y : SV} {S : St} (h : AccL f sz lo l y S) (z o : SObj) : AccL f sz lo l y (boxed S z o) :=
  accL_keep h rfl (by rw [boxed_next]; omega) fun b _ hb => boxed_get S z o b hb
theorem accL_single {α : Type} {f : α → List SV} {sz lo : Nat} {l : List α} {y : SV} {S : St} (h : AccL f sz lo l y S) : single y = true := by
  rcases h.2.2 with ⟨_, rfl⟩ | ⟨b, rfl, _⟩ <;> rfl

/-- One more. -/
theorem accL_append {α : Type} {f : α → List SV} {k : K} {t e : TypeId} {sz by_ : Nat} (hfl : ∀ x, (f x).length = sz) {z : List SV} (he : elem? k t = some e) (hs : size? k e = some sz) (hb : bytes? k e = some by_) (hz : zero? k e = some z) (h0 : sz ≠ 0) (h1 : by_ ≠ 0) (h2 : z.length = sz) (hbx : k.inBox e ≠ 1)
    {lo : Nat} {l : List α} {y : SV} {S : St} (h : AccL f sz lo l y S) (x : α) (hr : (l.length + 1) * by_ ≤ room) :
    ∃ y' S', appendE k t y (.sl (some S.next) 1 (f x)) (S.alloc (.own sz sz)) = some (y', S') ∧ AccL f sz lo (l ++ [x]) y' S' ∧ S'.floor = S.floor ∧ S.next < S'.next ∧ (∀ b, b < lo → S'.get b = S.get b) ∧ ∀ c, c < S.next → (∀ m, S.get c ≠ .own sz m) → S'.get c = S.get c := by
  obtain ⟨hf, hlo, h⟩ := h
  have hx := hfl x
  have hcl : (l.flatMap f).length = l.length * sz := flatMap_len f sz hfl l
  rcases h with ⟨rfl, rfl⟩ | ⟨b, rfl, hg, hbl, hbn, hbf⟩
  · refine ⟨.sl (some (S.next + 1)) 1 (f x), (S.alloc (.own sz sz)).alloc (.own sz (f x).length), ?_, ⟨?_, ?_, .inr ⟨S.next + 1, by simp, ?_, ?_, ?_, ?_⟩⟩, rfl, ?_, ?_, ?_⟩
    · simp only [appendE, he, hs, hb, hz, srcCells, Option.bind_some, hx]
      simp [h0, h1, h2, hbx]
      have : by_ ≤ room := by simpa using hr
      simp [this]
      exact ⟨rfl, by rw [hx]⟩
    · simp [St.alloc]; omega
    · simp [St.alloc]; omega
    · simp [St.alloc, hx]
    · omega
    · simp [St.alloc]
    · simp [St.alloc]; omega
    · simp [St.alloc]; omega
    · intro b hb
      rw [get_new _ _ _ (by simp [St.alloc]; omega), get_new _ _ _ (by omega)]
    · intro c hc _
      rw [get_new _ _ _ (by simp [St.alloc]; omega), get_new _ _ _ (by omega)]
  · have hgb : (S.alloc (.own sz sz)).get b = .own sz (l.length * sz) := by rw [get_new _ _ _ hbn]; exact hg
    refine ⟨.sl (some (S.next + 1)) (l.length + 1) (l.flatMap f ++ f x), ((S.alloc (.own sz sz)).put b .dead).alloc (.own sz ((l.flatMap f).length + (f x).length)), ?_, ⟨?_, ?_, .inr ⟨S.next + 1, by simp, ?_, ?_, ?_, ?_⟩⟩, rfl, ?_, ?_, ?_⟩
    · simp only [appendE, he, hs, hb, hz, srcCells, Option.bind_some, hx, hgb]
      have hfl' : (S.alloc (SObj.own sz sz)).floor ≤ b := hbf
      simp [h0, h1, h2, hbx, hfl']
      have hcl2 : (l.map fun a => (f a).length).sum = l.length * sz := by rw [← hcl, List.length_flatMap]
      simp [hcl2, hr, hx]
      try rfl
    · simp [St.alloc, St.put]; omega
    · simp [St.alloc, St.put]; omega
    · simp only [St.alloc, St.put, hcl, hx, List.length_append, List.length_singleton, Nat.add_mul, Nat.one_mul, if_true]
    · omega
    · simp [St.alloc, St.put]
    · simp [St.alloc, St.put]; omega
    · simp [St.alloc, St.put]; omega
    · intro c hc
      rw [get_new _ _ _ (by simp [St.alloc, St.put]; omega), get_put _ _ _ _ (by omega), get_new _ _ _ (by omega)]
    · intro c hc hne
      have : c ≠ b := by rintro rfl; exact hne _ hg
      rw [get_new _ _ _ (by simp [St.alloc, St.put]; omega), get_put _ _ _ _ this, get_new _ _ _ (by omega)]

/-! Loops. -/
theorem iter_inv (ex : Nat) {F : List SV → St → Option (Ex × List SV × St)} (n : Nat) (I : Nat → List SV → St → Prop)
    (hstep : ∀ i, i < n → ∀ vs S, I i vs S → ∃ vs' S', F vs S = some (.normal, vs', S') ∧ I (i + 1) vs' S')
    (hend : ∀ vs S, I n vs S → F vs S = some (.exit ex, vs, S)) :
    ∀ (m i : Nat), m + i = n → ∀ vs S M, I i vs S → m < M → ∃ vs' S', iter F M vs S = some (.exit ex, vs', S') ∧ I n vs' S'
  | 0, i, hi, vs, S, M, hI, hM => by
    obtain ⟨M, rfl⟩ : ∃ m, M = m + 1 := ⟨M - 1, by omega⟩
    have : i = n := by omega
    subst this
    exact ⟨vs, S, iter_exit (hend vs S hI), hI⟩
  | m + 1, i, hi, vs, S, M, hI, hM => by
    obtain ⟨M, rfl⟩ : ∃ m, M = m + 1 := ⟨M - 1, by omega⟩
    obtain ⟨vs', S', h1, h2⟩ := hstep i (by omega) vs S hI
    obtain ⟨vs2, S2, h3, h4⟩ := iter_inv ex n I hstep hend m (i + 1) (by omega) vs' S' M h2 (by omega)
    exact ⟨vs2, S2, by rw [iter_normal h1]; exact h3, h4⟩

/-- The same, with a way out. -/
theorem iter_invR (ex : Nat) {F : List SV → St → Option (Ex × List SV × St)} (n : Nat) (I : Nat → List SV → St → Prop) (R : List SV → St → Prop)
    (hstep : ∀ i, i < n → ∀ vs S, I i vs S → (∃ vs' S', F vs S = some (.normal, vs', S') ∧ I (i + 1) vs' S') ∨ (∃ vs' S', F vs S = some (.ret, vs', S') ∧ R vs' S'))
    (hend : ∀ vs S, I n vs S → F vs S = some (.exit ex, vs, S)) :
    ∀ (m i : Nat), m + i = n → ∀ vs S M, I i vs S → m < M → (∃ vs' S', iter F M vs S = some (.exit ex, vs', S') ∧ I n vs' S') ∨ (∃ vs' S', iter F M vs S = some (.ret, vs', S') ∧ R vs' S')
  | 0, i, hi, vs, S, M, hI, hM => by
    obtain ⟨M, rfl⟩ : ∃ m, M = m + 1 := ⟨M - 1, by omega⟩
    have : i = n := by omega
    subst this
    exact .inl ⟨vs, S, iter_exit (hend vs S hI), hI⟩
  | m + 1, i, hi, vs, S, M, hI, hM => by
    obtain ⟨M, rfl⟩ : ∃ m, M = m + 1 := ⟨M - 1, by omega⟩
    rcases hstep i (by omega) vs S hI with ⟨vs', S', h1, h2⟩ | ⟨vs', S', h1, h2⟩
    · rcases iter_invR ex n I R hstep hend m (i + 1) (by omega) vs' S' M h2 (by omega) with ⟨vs2, S2, h3, h4⟩ | ⟨vs2, S2, h3, h4⟩
      · exact .inl ⟨vs2, S2, by rw [iter_normal h1]; exact h3, h4⟩
      · exact .inr ⟨vs2, S2, by rw [iter_normal h1]; exact h3, h4⟩
    · exact .inr ⟨vs', S', iter_ret h1, h2⟩

/-! How blocks of trees lie. -/
def wc (p : Int × Tree) : List SV := .v (.int .i64 p.1) :: p.2.cells
theorem wc_len (p : Int × Tree) : (wc p).length = 12 := by simp [wc, Tree.cells_len]
def w104 (p : Int × Tree) : T104 := ⟨p.1, p.2.a.tmp, p.2.a.ty, p.2.a.c0, p.2.a.c1, p.2.a.c2, p.2.a.c3, p.2.kind, p.2.ty, p.2.op, p.2.off, sl Tree.cells p.2.l⟩
theorem w104_enc (p : Int × Tree) : (w104 p).enc = wc p := by
  obtain ⟨n, a, kind, ty, op, off, l⟩ := p
  simp [w104, T104.enc, wc, Tree.cells, Tree.t37, T37.enc, Tree.a, Tree.kind, Tree.ty, Tree.op, Tree.off, Tree.l, sl, cellsT_eq]
theorem openCp104 {Z : Type} (p : Int × Tree) (K : cd104.α → Option Z) : openCp cd104 (.cp (wc p)) K = K (w104 p) := by rw [← w104_enc]; rfl
def w98 (p : Int × Tree) : T98 := ⟨p.1, p.2.a.tmp, p.2.a.ty, p.2.a.c0, p.2.a.c1, p.2.a.c2, p.2.a.c3, p.2.kind, p.2.ty, p.2.op, p.2.off, sl Tree.cells p.2.l⟩
theorem w98_enc (p : Int × Tree) : (w98 p).enc = wc p := by
  obtain ⟨n, a, kind, ty, op, off, l⟩ := p
  simp [w98, T98.enc, wc, Tree.cells, Tree.t37, T37.enc, Tree.a, Tree.kind, Tree.ty, Tree.op, Tree.off, Tree.l, sl, cellsT_eq]
def TStmt.t59 (s : TStmt) : T59 := ⟨s.kind, s.tmp, s.off, s.n, s.jump, s.addr, s.to_, s.e.a.tmp, s.e.a.ty, s.e.a.c0, s.e.a.c1, s.e.a.c2, s.e.a.c3, s.e.kind, s.e.ty, s.e.op, s.e.off, sl Tree.cells s.e.l, sl Tree.cells s.l⟩
def tsc (s : TStmt) : List SV := s.t59.enc
theorem tsc_len (s : TStmt) : (tsc s).length = 19 := rfl
def TBlock.t39 (b : TBlock) : T39 := ⟨nums b.tmps, sl tsc b.l, b.next.a.tmp, b.next.a.ty, b.next.a.c0, b.next.a.c1, b.next.a.c2, b.next.a.c3, b.next.kind, b.next.ty, b.next.op, b.next.off, sl Tree.cells b.next.l, b.jump, spanl b.spans⟩
theorem t37_eq (t : Tree) : t.t37 = ⟨t.a.tmp, t.a.ty, t.a.c0, t.a.c1, t.a.c2, t.a.c3, t.kind, t.ty, t.op, t.off, sl Tree.cells t.l⟩ := by
  cases t; simp [Tree.t37, Tree.a, Tree.kind, Tree.ty, Tree.op, Tree.off, Tree.l, sl, cellsT_eq]
theorem cells_eq (t : Tree) : t.cells = [.v (.int .i64 t.a.tmp), .v (.int .i64 t.a.ty), .v (.int .u32 t.a.c0), .v (.int .u32 t.a.c1), .v (.int .u32 t.a.c2), .v (.int .u32 t.a.c3), .v (.int .i64 t.kind), .v (.int .i64 t.ty), .v (.int .i64 t.op), .v (.int .i64 t.off), sl Tree.cells t.l] := by
  rw [Tree.cells, t37_eq]; rfl

theorem tree_erase : ∀ (t : Tree) (S : St), eraseL S t.cells = t.cells := by
  intro t S
  induction t using Tree.ind with
  | h a k ty op off l ih =>
    have hl : eraseL S (l.flatMap Tree.cells) = l.flatMap Tree.cells := by
      induction l with
      | nil => rfl
      | cons t r ihr =>
        simp only [List.flatMap_cons, eraseL_append]
        rw [ih t (by simp), ihr fun t ht => ih t (by simp [ht])]
    rw [cells_eq]
    simp only [Tree.a, Tree.kind, Tree.ty, Tree.op, Tree.off, Tree.l, sl, eraseL, erase, weakV, hl]
theorem cl_tree : Clean Tree.cells := fun t => ⟨tree_clean t, tree_erase t⟩
theorem cl_ic (q : IntKind) : Clean (ic q) := fun x => ⟨⟨rfl, rfl⟩, fun _ => rfl⟩
theorem cl_ac : Clean ac := fun x => ⟨⟨rfl, rfl⟩, fun _ => rfl⟩
theorem cl_pc : Clean pc := fun x => ⟨⟨rfl, rfl⟩, fun _ => rfl⟩
theorem cl_wc : Clean wc := fun p => ⟨⟨by simp only [wc, shutL, shut, (tree_clean p.2).1], by simp only [wc, weakL, weak, weakV, (tree_clean p.2).2]⟩, fun S => by simp only [wc, eraseL, erase, weakV, tree_erase]⟩
theorem sl_shut {α : Type} {f : α → List SV} (h : Clean f) (l : List α) : shut (sl f l) = sl f l ∧ weak (sl f l) = sl f l := sl_ws f (fun x => (h x).1) l
theorem cl_tsc : Clean tsc := fun s => by
  have h1 := sl_shut cl_tree s.e.l
  have h2 := sl_shut cl_tree s.l
  refine ⟨⟨?_, ?_⟩, fun S => ?_⟩
  · simp only [tsc, T59.enc, TStmt.t59, shutL, shut, h1.1, h2.1]
  · simp only [tsc, T59.enc, TStmt.t59, weakL, weak, weakV, h1.2, h2.2]
  · simp only [tsc, T59.enc, TStmt.t59, eraseL, erase, weakV, sl_erase cl_tree]
theorem cl_sc : Clean sc := fun s => by
  have h1 := sl_shut cl_ac s.e.l
  have h2 := sl_shut cl_ac s.l
  refine ⟨sc_clean s, fun S => ?_⟩
  simp only [sc, T57.enc, Stmt.t57, atoms, eraseL, erase, weakV, sl_erase cl_ac]
theorem tstmt_ws (s : TStmt) : weak (shut (.agg s.t59.enc)) = .agg s.t59.enc := by
  have := (cl_tsc s).1
  unfold tsc at this
  simp only [shut, weak, this.1, this.2]
theorem openCp59' {Z : Type} (s : TStmt) (K : cd59.α → Option Z) : openCp cd59 (.cp (tsc s)) K = K s.t59 := rfl
theorem openCp37' {Z : Type} (t : Tree) (K : cd37.α → Option Z) : openCp cd37 (.cp t.cells) K = K t.t37 := rfl
theorem openAgg37' {Z : Type} (t : Tree) (K : cd37.α → Option Z) : openAgg cd37 (.agg t.cells) K = K t.t37 := rfl
theorem openAgg59' {Z : Type} (s : TStmt) (K : cd59.α → Option Z) : openAgg cd59 (.agg (tsc s)) K = K s.t59 := rfl
theorem size104 : (Tryz.prog.info? 104).map (·.size) = some 12 := by kernel_rfl
theorem size98 : (Tryz.prog.info? 98).map (·.size) = some 12 := by kernel_rfl
theorem tree_ws' (t : Tree) : weak (shut (.agg t.t37.enc)) = .agg t.t37.enc := tree_ws t
end Go.Sv
end
section
namespace Go.Sv
open Go Go.Proofs
set_option linter.all false
set_option maxRecDepth 1000000
set_option maxHeartbeats 0
def h68 : H := { hh with live := fun b => match b with  | _ => [], keep := fun b => match b with  | _ => none }
theorem tell68 (N : Nat) (u0 : T28) : cBody (kt.at 68) h68 (run kt) N (compF Tryz.f68) [.agg u0.enc] St0 = (some ((.agg [(.v (.int .i64 u0.tmp)), (.v (.int .i64 u0.ty)), (.v (.int .u32 u0.c0)), (.v (.int .u32 u0.c1)), (.v (.int .u32 u0.c2)), (.v (.int .u32 u0.c3)), (.v (.int .i64 (0 : Int))), (.v (.int .i64 (0 : Int))), (.v (.int .i64 (0 : Int))), (.v (.int .i64 (0 : Int))), (.v (.slice none 0 0))]), (St.put (St.alloc St0 (.cells [(.v (.int .i64 (0 : Int))), (.v (.int .i64 (0 : Int))), (.v (.int .u32 (0 : Int))), (.v (.int .u32 (0 : Int))), (.v (.int .u32 (0 : Int))), (.v (.int .u32 (0 : Int))), (.v (.int .i64 (0 : Int))), (.v (.int .i64 (0 : Int))), (.v (.int .i64 (0 : Int))), (.v (.int .i64 (0 : Int))), (.v (.slice none 0 0))])) 0 (.cells [(.v (.int .i64 u0.tmp)), (.v (.int .i64 u0.ty)), (.v (.int .u32 u0.c0)), (.v (.int .u32 u0.c1)), (.v (.int .u32 u0.c2)), (.v (.int .u32 u0.c3)), (.v (.int .i64 (0 : Int))), (.v (.int .i64 (0 : Int))), (.v (.int .i64 (0 : Int))), (.v (.int .i64 (0 : Int))), (.v (.slice none 0 0))])))) := by kernel_rfl
theorem fn68 : fnsK 68 = some (compF Tryz.f68) := by kernel_rfl
def h129 : H := { hh with live := fun b => match b with | 0 => [(4, 2), (5, 1)] | _ => [], keep := fun b => match b with  | _ => none }
theorem tell129 (N : Nat) (u0 : T37) (u1 : Int) : cBody (kt.at 129) h129 (run kt) N (compF Tryz.f129) [.agg u0.enc, .v (.int .i64 u1)] St0 = (run kt (.func 35 [] []) [(.agg u0.enc)] St0).bind fun p0 => openBool p0.1 fun b1 => (splitB (.v (.bool b1))
 ((some ((.v (.bool false)), p0.2)))
 ((splitB (.v (.bool (u0.kind == u1)))
 ((some ((.v (.bool true)), p0.2)))
 ((iter (fun vs2 S3 => openHd vs2 fun y4 r5 => openBool y4 fun b6 => openHd r5 fun y7 r8 => openInt y7 fun a9 => (lenE (kt.at 129) 35 u0.l).bind fun r10 => openInt r10 fun a11 => (splitB (.v (.bool (decide (a9 < a11))))
 ((indexAddrE (kt.at 129) 35 u0.l (.v (.int .i64 a9))).bind fun r12 => openCp cd37 r12 fun t13 => (run kt (.func 129 [] []) [(.agg t13.enc), (.v (.int .i64 u1))] S3).bind fun p14 => openBool p14.1 fun b15 => (splitB (.v (.bool b15))
 ((some (.ret, ([(.v (.bool true)), (.v (.int .i64 a9))], p14.2))))
 ((some (.normal, ([(.v (.bool b6)), (.v (.int .i64 (IntKind.wrap .i64 (a9 + (1 : Int)))))], p14.2))))))
 ((some ((.exit 0), ([(.v (.bool b6)), (.v (.int .i64 a9))], S3)))))) N [(.v (.bool false)), (.v (.int .i64 (0 : Int)))] p0.2).bind fun q16 => openHd q16.2.1 fun y17 r18 => openBool y17 fun b19 => openHd r18 fun y20 r21 => openInt y20 fun a22 => (exits q16.1 (fun i23 => (if i23 = 0 then (some ((.v (.bool false)), q16.2.2)) else none)) ((some ((.v (.bool b19)), q16.2.2)))))))) := by kernel_rfl
theorem fn129 : fnsK 129 = some (compF Tryz.f129) := by kernel_rfl
def h130 : H := { hh with live := fun b => match b with | 0 => [(6, 2), (7, 1)] | _ => [], keep := fun b => match b with | 10 => some [(30, 2)] | _ => none }
theorem tell130 (N : Nat) (u0 : T37) (u1 : Int) (u2 : Int) : cBody (kt.at 130) h130 (run kt) N (compF Tryz.f130) [.agg u0.enc, .v (.int .i64 u1), .v (.int .i64 u2)] St0 = (run kt (.func 35 [] []) [(.agg u0.enc)] St0).bind fun p0 => openBool p0.1 fun b1 => (splitB (.v (.bool b1))
 ((some ((.v (.bool false)), p0.2)))
 (((splitB (.v (.bool (u0.kind == (2 : Int))))
 ((splitB (.v (.bool (decide (u0.off < (IntKind.wrap .i64 (u1 + u2))))))
 ((run kt (.func 77 [] []) [(.v (.int .i64 u0.ty))] p0.2).bind fun p2 => openInt p2.1 fun a3 => (some [(.v (.bool (decide (u1 < (IntKind.wrap .i64 (u0.off + a3))))))]))
 ((some [(.v (.bool false))]))))
 ((some [(.v (.bool false))])))).bind fun vs4 => openHd vs4 fun y5 r6 => openBool y5 fun b7 => (splitB (.v (.bool b7))
 ((some ((.v (.bool true)), p0.2)))
 ((iter (fun vs8 S9 => openHd vs8 fun y10 r11 => openBool y10 fun b12 => openHd r11 fun y13 r14 => openInt y13 fun a15 => (lenE (kt.at 130) 35 u0.l).bind fun r16 => openInt r16 fun a17 => (splitB (.v (.bool (decide (a15 < a17))))
 ((indexAddrE (kt.at 130) 35 u0.l (.v (.int .i64 a15))).bind fun r18 => openCp cd37 r18 fun t19 => (run kt (.func 130 [] []) [(.agg t19.enc), (.v (.int .i64 u1)), (.v (.int .i64 u2))] S9).bind fun p20 => openBool p20.1 fun b21 => (splitB (.v (.bool b21))
 ((some (.ret, ([(.v (.bool true)), (.v (.int .i64 a15))], p20.2))))
 ((some (.normal, ([(.v (.bool b12)), (.v (.int .i64 (IntKind.wrap .i64 (a15 + (1 : Int)))))], p20.2))))))
 ((some ((.exit 0), ([(.v (.bool b12)), (.v (.int .i64 a15))], S9)))))) N [(.v (.bool false)), (.v (.int .i64 (0 : Int)))] p0.2).bind fun q22 => openHd q22.2.1 fun y23 r24 => openBool y23 fun b25 => openHd r24 fun y26 r27 => openInt y26 fun a28 => (exits q22.1 (fun i29 => (if i29 = 0 then (some ((.v (.bool false)), q22.2.2)) else none)) ((some ((.v (.bool b25)), q22.2.2)))))))) := by kernel_rfl
theorem fn130 : fnsK 130 = some (compF Tryz.f130) := by kernel_rfl
def h131 : H := { hh with live := fun b => match b with | 0 => [(6, 1), (7, 0), (9, 1)] | _ => [], keep := fun b => match b with | 13 => some [(31, 2)] | 40 => some [(46, 2)] | _ => none }
theorem tell131 (N : Nat) (n0 : Nat) (k0 : List SV) (u1 : T37) (u2 : Bool) : cBody (kt.at 131) h131 (run kt) N (compF Tryz.f131) [.sl none n0 k0, .agg u1.enc, .v (.bool u2)] St0 = (run kt (.func 35 [] []) [(.agg u1.enc)] St0).bind fun p0 => openBool p0.1 fun b1 => (splitB (.v (.bool b1))
 (((splitB (.v (.bool (u1.ty != (0 : Int))))
 ((some [(.v (.bool true))]))
 ((splitB (.v (.bool (u1.op != (0 : Int))))
 ((some [(.v (.bool true))]))
 ((splitB (.v (.bool (u1.off != (0 : Int))))
 ((some [(.v (.bool true))]))
 ((lenE (kt.at 131) 35 u1.l).bind fun r2 => openInt r2 fun a3 => (some [(.v (.bool (decide (a3 > (0 : Int)))))])))))))).bind fun vs4 => openHd vs4 fun y5 r6 => openBool y5 fun b7 => (splitB (.v (.bool b7))
 ((some ((.v (.int .i64 (0 : Int))), p0.2)))
 ((run kt (.func 81 [] []) [(.sl none n0 k0), (.agg [(.v (.int .i64 u1.a_Tmp)), (.v (.int .i64 u1.a_Ty)), (.v (.int .u32 u1.a_C0)), (.v (.int .u32 u1.a_C1)), (.v (.int .u32 u1.a_C2)), (.v (.int .u32 u1.a_C3))])] p0.2).bind fun p8 => openInt p8.1 fun a9 => (some ((.v (.int .i64 a9)), p8.2)))))
 ((splitB (.v (.bool (!((u1.a_Tmp == (0 : Int)) && ((u1.a_Ty == (0 : Int)) && ((u1.a_C0 == (0 : Int)) && ((u1.a_C1 == (0 : Int)) && ((u1.a_C2 == (0 : Int)) && ((u1.a_C3 == (0 : Int)) && true)))))))))
 ((some ((.v (.int .i64 (0 : Int))), p0.2)))
 (((splitB (.v (.bool (u1.kind == (1 : Int))))
 ((some [(.v (.bool (!u2)))]))
 ((some [(.v (.bool false))])))).bind fun vs10 => openHd vs10 fun y11 r12 => openBool y11 fun b13 => (splitB (.v (.bool b13))
 ((some ((.v (.int .i64 (0 : Int))), p0.2)))
 (storeK (kt.at 131) 55 (.ptr (St.next p0.2) 0) (.agg [(.v (.int .i64 u1.kind)), (.v (.int .i64 u1.ty)), (.v (.int .i64 u1.op)), (.v (.int .i64 u1.off)), (.v (.slice none 0 0))]) (St.alloc p0.2 (.cells [(.v (.int .i64 (0 : Int))), (.v (.int .i64 (0 : Int))), (.v (.int .i64 (0 : Int))), (.v (.int .i64 (0 : Int))), (.v (.slice none 0 0))])) fun S14 => (iter (fun vs15 S16 => openHd vs15 fun y17 r18 => openInt y17 fun a19 => openHd r18 fun y20 r21 => openHd r21 fun y22 r23 => openInt y22 fun a24 => (lenE (kt.at 131) 35 u1.l).bind fun r25 => openInt r25 fun a26 => (splitB (.v (.bool (decide (a24 < a26))))
 ((indexAddrE (kt.at 131) 35 u1.l (.v (.int .i64 a24))).bind fun r27 => openCp cd37 r27 fun t28 => (run kt (.func 131 [] []) [(.sl none n0 k0), (.agg t28.enc), (.v (.bool false))] S16).bind fun p29 => openInt p29.1 fun a30 => (splitB (.v (.bool (a30 == (0 : Int))))
 ((some (.ret, ([(.v (.int .i64 (0 : Int))), y20, (.v (.int .i64 a24))], p29.2))))
 ((appendE (kt.at 131) 22 y20 (.sl (some (St.next p29.2)) 1 [(.v (.int .i64 a30))]) (St.alloc p29.2 (.own 1 1))).bind fun p31 => (loadE (kt.at 131) 53 (.ptr (St.next p0.2) 4) p31.2).bind fun r32 => (appendE (kt.at 131) 53 r32 (.sl (some (St.next p31.2)) 1 [(.v (.int .i64 a24)), (.v (.int .i64 (0 : Int))), (.v (.int .u32 (0 : Int))), (.v (.int .u32 (0 : Int))), (.v (.int .u32 (0 : Int))), (.v (.int .u32 (0 : Int)))]) (St.alloc p31.2 (.own 6 6))).bind fun p33 => storeK (kt.at 131) 53 (.ptr (St.next p0.2) 4) p33.1 p33.2 fun S34 => (some (.normal, ([(.v (.int .i64 a19)), p31.1, (.v (.int .i64 (IntKind.wrap .i64 (a24 + (1 : Int)))))], S34))))))
 ((some ((.exit 0), ([(.v (.int .i64 a19)), y20, (.v (.int .i64 a24))], S16)))))) N [(.v (.int .i64 (0 : Int))), (.v (.slice none 0 0)), (.v (.int .i64 (0 : Int)))] S14).bind fun q35 => openHd q35.2.1 fun y36 r37 => openInt y36 fun a38 => openHd r37 fun y39 r40 => openHd r40 fun y41 r42 => openInt y41 fun a43 => (exits q35.1 (fun i44 => (if i44 = 0 then (loadE (kt.at 131) 55 (.ptr (St.next p0.2) 0) q35.2.2).bind fun r45 => openAgg cd55 r45 fun t46 => (run kt (.func 135 [] []) [y39, (.agg t46.enc)] q35.2.2).bind fun p47 => openInt p47.1 fun a48 => (some ((.v (.int .i64 a48)), p47.2)) else none)) ((some ((.v (.int .i64 a38)), q35.2.2)))))))))) := by kernel_rfl
theorem fn131 : fnsK 131 = some (compF Tryz.f131) := by kernel_rfl
def h62 : H := { hh with live := fun b => match b with  | _ => [], keep := fun b => match b with | 7 => some [(18, 2)] | _ => none }
theorem tell62 (N : Nat) (n0 : Nat) (k0 : List SV) (u1 : T59) (u2 : T37) : cBody (kt.at 62) h62 (run kt) N (compF Tryz.f62) [.sl none n0 k0, .agg u1.enc, .agg u2.enc] St0 = ((run kt (.func 129 [] []) [(.agg u2.enc), (.v (.int .i64 (5 : Int)))] St0).bind fun p0 => openBool p0.1 fun b1 => (splitB (.v (.bool b1))
 ((splitB (.v (.bool (u1.kind != (2 : Int))))
 ((some [(.v (.bool true))]))
 ((run kt (.func 129 [] []) [(.agg [(.v (.int .i64 u1.e_A_Tmp)), (.v (.int .i64 u1.e_A_Ty)), (.v (.int .u32 u1.e_A_C0)), (.v (.int .u32 u1.e_A_C1)), (.v (.int .u32 u1.e_A_C2)), (.v (.int .u32 u1.e_A_C3)), (.v (.int .i64 u1.e_Kind)), (.v (.int .i64 u1.e_Ty)), (.v (.int .i64 u1.e_Op)), (.v (.int .i64 u1.e_Off)), u1.e_L]), (.v (.int .i64 (5 : Int)))] p0.2).bind fun p2 => openBool p2.1 fun b3 => (some [(.v (.bool b3))]))))
 ((some [(.v (.bool false))])))).bind fun vs4 => openHd vs4 fun y5 r6 => openBool y5 fun b7 => (splitB (.v (.bool b7))
 ((some ((.v (.bool true)), St0)))
 ((splitB (.v (.bool (u1.kind == (3 : Int))))
 ((indexAddrE (kt.at 62) 35 u1.l (.v (.int .i64 (0 : Int)))).bind fun r8 => openCp cd37 r8 fun t9 => (run kt (.func 131 [] []) [(.sl none n0 k0), (.agg t9.enc), (.v (.bool false))] St0).bind fun p10 => openInt p10.1 fun a11 => (run kt (.func 77 [] []) [(.v (.int .i64 a11))] p10.2).bind fun p12 => openInt p12.1 fun a13 => (run kt (.func 130 [] []) [(.agg u2.enc), (.v (.int .i64 u1.off)), (.v (.int .i64 a13))] p12.2).bind fun p14 => openBool p14.1 fun b15 => (some ((.v (.bool b15)), p14.2)))
 ((splitB (.v (.bool (u1.kind == (6 : Int))))
 ((run kt (.func 129 [] []) [(.agg u2.enc), (.v (.int .i64 (6 : Int)))] St0).bind fun p16 => openBool p16.1 fun b17 => (some ((.v (.bool b17)), p16.2)))
 ((splitB (.v (.bool (u1.kind == (7 : Int))))
 ((run kt (.func 129 [] []) [(.agg u2.enc), (.v (.int .i64 (9 : Int)))] St0).bind fun p18 => openBool p18.1 fun b19 => (some ((.v (.bool b19)), p18.2)))
 ((some ((.v (.bool false)), St0)))))))))) := by kernel_rfl
theorem fn62 : fnsK 62 = some (compF Tryz.f62) := by kernel_rfl
def h63 : H := { hh with live := fun b => match b with | 0 => [(5, 1), (6, 1)] | 2 => [(5, 1), (8, 1)] | _ => [], keep := fun b => match b with  | _ => none }
theorem tell63 (N : Nat) (u0 : T31) (u1 : Int) : cBody (kt.at 63) h63 (run kt) N (compF Tryz.f63) [.agg u0.enc, .v (.int .i64 u1)] St0 = (iter (fun vs0 S1 => openHd vs0 fun y2 r3 => openInt y2 fun a4 => openHd r3 fun y5 r6 => openInt y5 fun a7 => (lenE (kt.at 63) 23 u0.l).bind fun r8 => openInt r8 fun a9 => (splitB (.v (.bool (decide (a7 < a9))))
 ((indexAddrE (kt.at 63) 23 u0.l (.v (.int .i64 a7))).bind fun r10 => openCp cd57 r10 fun t11 => (appendE (kt.at 63) 53 .emp t11.e_L S1).bind fun p12 => (indexAddrE (kt.at 63) 23 u0.l (.v (.int .i64 a7))).bind fun r13 => openCp cd57 r13 fun t14 => (appendE (kt.at 63) 53 p12.1 t14.l p12.2).bind fun p15 => (iter (fun vs16 S17 => openHd vs16 fun y18 r19 => openInt y18 fun a20 => openHd r19 fun y21 r22 => openInt y21 fun a23 => (lenE (kt.at 63) 53 p15.1).bind fun r24 => openInt r24 fun a25 => (splitB (.v (.bool (decide (a23 < a25))))
 ((indexAddrE (kt.at 63) 53 p15.1 (.v (.int .i64 a23))).bind fun r26 => openCp cd28 r26 fun t27 => (splitB (.v (.bool (t27.tmp == u1)))
 ((some (.normal, ([(.v (.int .i64 (IntKind.wrap .i64 (a20 + (1 : Int))))), (.v (.int .i64 (IntKind.wrap .i64 (a23 + (1 : Int)))))], S17))))
 ((some (.normal, ([(.v (.int .i64 a20)), (.v (.int .i64 (IntKind.wrap .i64 (a23 + (1 : Int)))))], S17))))))
 ((some ((.exit 2), ([(.v (.int .i64 a20)), (.v (.int .i64 a23))], S17)))))) N [(.v (.int .i64 a4)), (.v (.int .i64 (0 : Int)))] p15.2).bind fun q28 => openHd q28.2.1 fun y29 r30 => openInt y29 fun a31 => openHd r30 fun y32 r33 => openInt y32 fun a34 => (exits q28.1 (fun i35 => (if i35 = 2 then (some (.normal, ([(.v (.int .i64 a31)), (.v (.int .i64 (IntKind.wrap .i64 (a7 + (1 : Int)))))], q28.2.2))) else (if i35 = 1 then (some (.normal, ([(.v (.int .i64 a31)), (.v (.int .i64 (IntKind.wrap .i64 (a7 + (1 : Int)))))], q28.2.2))) else (some ((.exit i35), ([(.v (.int .i64 a31)), (.v (.int .i64 a7))], q28.2.2)))))) ((some (.ret, ([(.v (.int .i64 a31)), (.v (.int .i64 a7))], q28.2.2))))))
 ((some ((.exit 0), ([(.v (.int .i64 a4)), (.v (.int .i64 a7))], S1)))))) N [(.v (.int .i64 (0 : Int))), (.v (.int .i64 (0 : Int)))] St0).bind fun q36 => openHd q36.2.1 fun y37 r38 => openInt y37 fun a39 => openHd r38 fun y40 r41 => openInt y40 fun a42 => (exits q36.1 (fun i43 => (if i43 = 0 then (splitB (.v (.bool (u0.next_Tmp == u1)))
 ((some ((.v (.int .i64 (IntKind.wrap .i64 (a39 + (1 : Int))))), q36.2.2)))
 ((some ((.v (.int .i64 a39)), q36.2.2)))) else none)) ((some ((.v (.int .i64 (0 : Int))), q36.2.2)))) := by kernel_rfl
theorem fn63 : fnsK 63 = some (compF Tryz.f63) := by kernel_rfl
def h64 : H := { hh with live := fun b => match b with | 0 => [(1, 0), (6, 0), (7, 1)] | 2 => [(9, 0), (10, 1)] | _ => [], keep := fun b => match b with | 28 => some [(46, 2)] | _ => none }
theorem tell64 (N : Nat) (n0 : Nat) (k0 : List SV) (n1 : Nat) (k1 : List SV) : cBody (kt.at 64) h64 (run kt) N (compF Tryz.f64) [.sl none n0 k0, .sl none n1 k1] St0 = (iter (fun vs0 S1 => openHd vs0 fun y2 r3 => openHd r3 fun y4 r5 => openHd r5 fun y6 r7 => openInt y6 fun a8 => (splitB (.v (.bool (decide (a8 < ((n0 : Nat) : Int)))))
 ((indexAddrE (kt.at 64) 53 (.sl none n0 k0) (.v (.int .i64 a8))).bind fun r9 => openCp cd28 r9 fun t10 => (run kt (.func 68 [] []) [(.agg t10.enc)] S1).bind fun p11 => openAgg cd37 p11.1 fun t12 => storeK (kt.at 64) 37 (.ptr (St.next p11.2) 0) (.agg t12.enc) (St.alloc p11.2 (.cells [(.v (.int .i64 (0 : Int))), (.v (.int .i64 (0 : Int))), (.v (.int .u32 (0 : Int))), (.v (.int .u32 (0 : Int))), (.v (.int .u32 (0 : Int))), (.v (.int .u32 (0 : Int))), (.v (.int .i64 (0 : Int))), (.v (.int .i64 (0 : Int))), (.v (.int .i64 (0 : Int))), (.v (.int .i64 (0 : Int))), (.v (.slice none 0 0))])) fun S13 => (iter (fun vs14 S15 => openHd vs14 fun y16 r17 => openHd r17 fun y18 r19 => openInt y18 fun a20 => (lenE (kt.at 64) 99 y2).bind fun r21 => openInt r21 fun a22 => (splitB (.v (.bool (decide (a20 < a22))))
 (((indexAddrE (kt.at 64) 53 (.sl none n0 k0) (.v (.int .i64 a8))).bind fun r23 => openCp cd28 r23 fun t24 => (splitB (.v (.bool (decide (t24.tmp ≥ (0 : Int)))))
 ((indexAddrE (kt.at 64) 99 y2 (.v (.int .i64 a20))).bind fun r25 => openCp cd104 r25 fun t26 => (indexAddrE (kt.at 64) 53 (.sl none n0 k0) (.v (.int .i64 a8))).bind fun r27 => openCp cd28 r27 fun t28 => (some [(.v (.bool (t26.tmp == t28.tmp)))]))
 ((some [(.v (.bool false))])))).bind fun vs29 => openHd vs29 fun y30 r31 => openBool y30 fun b32 => (splitB (.v (.bool b32))
 ((indexAddrE (kt.at 64) 99 y2 (.v (.int .i64 a20))).bind fun r33 => openCp cd104 r33 fun t34 => storeK (kt.at 64) 37 (.ptr (St.next p11.2) 0) (.agg [(.v (.int .i64 t34.t_A_Tmp)), (.v (.int .i64 t34.t_A_Ty)), (.v (.int .u32 t34.t_A_C0)), (.v (.int .u32 t34.t_A_C1)), (.v (.int .u32 t34.t_A_C2)), (.v (.int .u32 t34.t_A_C3)), (.v (.int .i64 t34.t_Kind)), (.v (.int .i64 t34.t_Ty)), (.v (.int .i64 t34.t_Op)), (.v (.int .i64 t34.t_Off)), t34.t_L]) S15 fun S35 => (some (.normal, ([y16, (.v (.int .i64 (IntKind.wrap .i64 (a20 + (1 : Int)))))], S35))))
 ((indexAddrE (kt.at 64) 99 y2 (.v (.int .i64 a20))).bind fun r36 => openCp cd104 r36 fun t37 => (appendE (kt.at 64) 99 y16 (.sl (some (St.next S15)) 1 t37.enc) (St.alloc S15 (.own 12 12))).bind fun p38 => (some (.normal, ([p38.1, (.v (.int .i64 (IntKind.wrap .i64 (a20 + (1 : Int)))))], p38.2))))))
 ((some ((.exit 2), ([y16, (.v (.int .i64 a20))], S15)))))) N [(.v (.slice none 0 0)), (.v (.int .i64 (0 : Int)))] S13).bind fun q39 => openHd q39.2.1 fun y40 r41 => openHd r41 fun y42 r43 => openInt y42 fun a44 => (exits q39.1 (fun i45 => (if i45 = 2 then (loadE (kt.at 64) 37 (.ptr (St.next p11.2) 0) q39.2.2).bind fun r46 => openAgg cd37 r46 fun t47 => (appendE (kt.at 64) 35 y4 (.sl (some (St.next q39.2.2)) 1 t47.enc) (St.alloc q39.2.2 (.own 11 11))).bind fun p48 => (some (.normal, ([y40, p48.1, (.v (.int .i64 (IntKind.wrap .i64 (a8 + (1 : Int)))))], p48.2))) else (if i45 = 1 then (some (.normal, ([y2, y4, (.v (.int .i64 (IntKind.wrap .i64 (a8 + (1 : Int)))))], q39.2.2))) else (some ((.exit i45), ([y2, y4, (.v (.int .i64 a8))], q39.2.2)))))) ((some (.ret, ([y2, y4, (.v (.int .i64 a8))], q39.2.2))))))
 ((some ((.exit 0), ([y2, y4, (.v (.int .i64 a8))], S1)))))) N [(.sl none n1 k1), (.v (.slice none 0 0)), (.v (.int .i64 (0 : Int)))] St0).bind fun q49 => openHd q49.2.1 fun y50 r51 => openHd r51 fun y52 r53 => openHd r53 fun y54 r55 => openInt y54 fun a56 => (exits q49.1 (fun i57 => (if i57 = 0 then (some ((.tuple [y52, y50]), q49.2.2)) else none)) ((some ((.tuple [(.v (.slice none 0 0)), (.v (.slice none 0 0))]), q49.2.2)))) := by kernel_rfl
theorem fn64 : fnsK 64 = some (compF Tryz.f64) := by kernel_rfl
def h61 : H := { hh with live := fun b => match b with  | _ => [], keep := fun b => match b with  | _ => none }
theorem tell61 (N : Nat) (u0 : T57) (n1 : Nat) (k1 : List SV) : cBody (kt.at 61) h61 (run kt) N (compF Tryz.f61) [.agg u0.enc, .sl none n1 k1] St0 = (splitB (.v (.bool (u0.kind == (2 : Int))))
 ((run kt (.func 64 [] []) [u0.e_L, (.sl none n1 k1)] (St.put (St.alloc (St.alloc St0 (.cells [(.v (.int .i64 (0 : Int))), (.v (.int .i64 (0 : Int))), (.v (.int .i64 (0 : Int))), (.v (.int .i64 (0 : Int))), (.v (.int .i64 (0 : Int))), (.v (.int .u32 (0 : Int))), (.v (.int .u32 (0 : Int))), (.v (.int .i64 (0 : Int))), (.v (.int .i64 (0 : Int))), (.v (.int .u32 (0 : Int))), (.v (.int .u32 (0 : Int))), (.v (.int .u32 (0 : Int))), (.v (.int .u32 (0 : Int))), (.v (.int .i64 (0 : Int))), (.v (.int .i64 (0 : Int))), (.v (.int .i64 (0 : Int))), (.v (.int .i64 (0 : Int))), (.v (.slice none 0 0)), (.v (.slice none 0 0))])) (.cells [(.v (.int .i64 (0 : Int))), (.v (.int .i64 (0 : Int))), (.v (.int .i64 (0 : Int))), (.v (.int .i64 (0 : Int))), (.v (.int .i64 (0 : Int))), (.v (.int .u32 (0 : Int))), (.v (.int .u32 (0 : Int))), (.v (.int .i64 (0 : Int))), (.v (.int .i64 (0 : Int))), (.v (.int .u32 (0 : Int))), (.v (.int .u32 (0 : Int))), (.v (.int .u32 (0 : Int))), (.v (.int .u32 (0 : Int))), (.v (.int .i64 (0 : Int))), (.v (.int .i64 (0 : Int))), (.v (.int .i64 (0 : Int))), (.v (.int .i64 (0 : Int))), (.v (.slice none 0 0)), (.v (.slice none 0 0))])) 1 (.cells [(.v (.int .i64 u0.kind)), (.v (.int .i64 u0.tmp)), (.v (.int .i64 u0.off)), (.v (.int .i64 u0.n)), (.v (.int .i64 u0.jump)), (.v (.int .u32 u0.addr)), (.v (.int .u32 u0.to_)), (.v (.int .i64 (0 : Int))), (.v (.int .i64 (0 : Int))), (.v (.int .u32 (0 : Int))), (.v (.int .u32 (0 : Int))), (.v (.int .u32 (0 : Int))), (.v (.int .u32 (0 : Int))), (.v (.int .i64 (0 : Int))), (.v (.int .i64 (0 : Int))), (.v (.int .i64 (0 : Int))), (.v (.int .i64 (0 : Int))), (.v (.slice none 0 0)), (.v (.slice none 0 0))]))).bind fun p0 => openTup p0.1 fun l1 => openHd l1 fun y2 r3 => openHd r3 fun y4 r5 => openNil r5 ((if single y2 = true then storeK (kt.at 61) 37 (.ptr 1 7) (.agg [(.v (.int .i64 (0 : Int))), (.v (.int .i64 (0 : Int))), (.v (.int .u32 (0 : Int))), (.v (.int .u32 (0 : Int))), (.v (.int .u32 (0 : Int))), (.v (.int .u32 (0 : Int))), (.v (.int .i64 u0.e_Kind)), (.v (.int .i64 u0.e_Ty)), (.v (.int .i64 u0.e_Op)), (.v (.int .i64 u0.e_Off)), y2]) p0.2 fun S6 => (loadE (kt.at 61) 59 (.ptr 1 0) S6).bind fun r7 => openAgg cd59 r7 fun t8 => storeK (kt.at 61) 59 (.ptr 0 0) (.agg t8.enc) S6 fun S9 => (loadE (kt.at 61) 59 (.ptr 0 0) S9).bind fun r10 => (some ((.tuple [r10, y4]), S9)) else none)))
 ((run kt (.func 64 [] []) [u0.l, (.sl none n1 k1)] (St.put (St.alloc (St.alloc St0 (.cells [(.v (.int .i64 (0 : Int))), (.v (.int .i64 (0 : Int))), (.v (.int .i64 (0 : Int))), (.v (.int .i64 (0 : Int))), (.v (.int .i64 (0 : Int))), (.v (.int .u32 (0 : Int))), (.v (.int .u32 (0 : Int))), (.v (.int .i64 (0 : Int))), (.v (.int .i64 (0 : Int))), (.v (.int .u32 (0 : Int))), (.v (.int .u32 (0 : Int))), (.v (.int .u32 (0 : Int))), (.v (.int .u32 (0 : Int))), (.v (.int .i64 (0 : Int))), (.v (.int .i64 (0 : Int))), (.v (.int .i64 (0 : Int))), (.v (.int .i64 (0 : Int))), (.v (.slice none 0 0)), (.v (.slice none 0 0))])) (.cells [(.v (.int .i64 (0 : Int))), (.v (.int .i64 (0 : Int))), (.v (.int .i64 (0 : Int))), (.v (.int .i64 (0 : Int))), (.v (.int .i64 (0 : Int))), (.v (.int .u32 (0 : Int))), (.v (.int .u32 (0 : Int))), (.v (.int .i64 (0 : Int))), (.v (.int .i64 (0 : Int))), (.v (.int .u32 (0 : Int))), (.v (.int .u32 (0 : Int))), (.v (.int .u32 (0 : Int))), (.v (.int .u32 (0 : Int))), (.v (.int .i64 (0 : Int))), (.v (.int .i64 (0 : Int))), (.v (.int .i64 (0 : Int))), (.v (.int .i64 (0 : Int))), (.v (.slice none 0 0)), (.v (.slice none 0 0))])) 1 (.cells [(.v (.int .i64 u0.kind)), (.v (.int .i64 u0.tmp)), (.v (.int .i64 u0.off)), (.v (.int .i64 u0.n)), (.v (.int .i64 u0.jump)), (.v (.int .u32 u0.addr)), (.v (.int .u32 u0.to_)), (.v (.int .i64 (0 : Int))), (.v (.int .i64 (0 : Int))), (.v (.int .u32 (0 : Int))), (.v (.int .u32 (0 : Int))), (.v (.int .u32 (0 : Int))), (.v (.int .u32 (0 : Int))), (.v (.int .i64 (0 : Int))), (.v (.int .i64 (0 : Int))), (.v (.int .i64 (0 : Int))), (.v (.int .i64 (0 : Int))), (.v (.slice none 0 0)), (.v (.slice none 0 0))]))).bind fun p11 => openTup p11.1 fun l12 => openHd l12 fun y13 r14 => openHd r14 fun y15 r16 => openNil r16 (storeK (kt.at 61) 35 (.ptr 1 18) y13 p11.2 fun S17 => (loadE (kt.at 61) 59 (.ptr 1 0) S17).bind fun r18 => openAgg cd59 r18 fun t19 => storeK (kt.at 61) 59 (.ptr 0 0) (.agg t19.enc) S17 fun S20 => (loadE (kt.at 61) 59 (.ptr 0 0) S20).bind fun r21 => (some ((.tuple [r21, y15]), S20))))) := by kernel_rfl
theorem fn61 : fnsK 61 = some (compF Tryz.f61) := by kernel_rfl
end Go.Sv
end
