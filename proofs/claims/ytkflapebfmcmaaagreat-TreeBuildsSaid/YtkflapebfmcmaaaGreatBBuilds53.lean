/- Parts of the proofs of this seat's laws: an interpreter of the program's form, its soundness against the model, or what it answers on this program. -/
import Derived.Test.YtkflapebfmcmaaaGreatBBuilds27
import Derived.Test.YtkflapebfmcmaaaGreatBBuilds32
import Derived.Test.YtkflapebfmcmaaaGreatBBuilds24
import Derived.Test.YtkflapebfmcmaaaGreatBBuilds52
section
namespace Go.Sv
open Go Go.Proofs
set_option linter.all false
set_option maxRecDepth 1000000

/-! What may come in as a block IS a block. -/
theorem decW_int {n : Nat} {t : TypeId} {q : IntKind} {cs : List SV} (hu : Tryz.prog.underlying t = some (.int q)) (h : ShW Tryz.prog n t cs) : ∃ x, (Lit.int q x).wf = true ∧ cs = [.v (.int q x)] := by
  cases n with
  | zero => exact h.elim
  | succ n => simpa only [ShW, hu] using h
theorem decW_u32 {n : Nat} {cs : List SV} (h : ShW Tryz.prog n 24 cs) : ∃ x : Int, (0 ≤ x ∧ x ≤ 4294967295) ∧ cs = [.v (.int .u32 x)] := by
  obtain ⟨x, hw, rfl⟩ := decW_int Tryz.underlying24 h
  refine ⟨x, ?_, rfl⟩
  have e1 : IntKind.u32.min = 0 := by decide
  have e2 : IntKind.u32.max = 4294967295 := by decide
  simp [Lit.wf, e1, e2] at hw
  exact hw
theorem decW26 {n : Nat} {cs : List SV} (h : ShW Tryz.prog n 26 cs) : ∃ a b c d : Int, (0 ≤ a ∧ a ≤ 4294967295) ∧ cs = [.v (.int .u32 a), .v (.int .u32 b), .v (.int .u32 c), .v (.int .u32 d)] := by
  cases n with
  | zero => exact h.elim
  | succ n =>
    simp only [ShW, Tryz.underlying26, List.replicate, parts] at h
    obtain ⟨_, _, rfl, h1, _, _, rfl, h2, _, _, rfl, h3, _, _, rfl, h4, rfl⟩ := h
    obtain ⟨a, ha, rfl⟩ := decW_u32 h1
    obtain ⟨b, _, rfl⟩ := decW_u32 h2
    obtain ⟨c, _, rfl⟩ := decW_u32 h3
    obtain ⟨d, _, rfl⟩ := decW_u32 h4
    exact ⟨a, b, c, d, ha, rfl⟩
theorem decW28 {n : Nat} {cs : List SV} (h : ShW Tryz.prog n 28 cs) : ∃ a : Atom, cs = ac a ∧ a.ok := by
  cases n with
  | zero => exact h.elim
  | succ n =>
    simp only [ShW, Tryz.underlying28, List.map, parts] at h
    obtain ⟨_, _, rfl, h1, _, _, rfl, h2, _, _, rfl, h3, rfl⟩ := h
    obtain ⟨a, _, rfl⟩ := decW_int Tryz.underlying3 h1
    obtain ⟨b, _, rfl⟩ := decW_int Tryz.underlying3 h2
    obtain ⟨c0, c1, c2, c3, hc, rfl⟩ := decW26 h3
    exact ⟨⟨a, b, c0, c1, c2, c3⟩, rfl, hc⟩
/-- A list of things of one type. -/
theorem decW_slice {α : Type} {f : α → List SV} {Q : α → Prop} {n by_ : Nat} {t e : TypeId} {cs : List SV} (hu : Tryz.prog.underlying t = some (.slice e)) (hb : Tryz.prog.bytesOf e = by_) (h : ShW Tryz.prog n t cs) (hd : ∀ {m : Nat} {x : List SV}, ShW Tryz.prog m e x → ∃ a, x = f a ∧ Q a) : ∃ l : List α, cs = [sl f l] ∧ l.length * by_ ≤ reachBytes ∧ ∀ a ∈ l, Q a := by
  cases n with
  | zero => exact h.elim
  | succ n =>
    simp only [ShW, hu] at h
    obtain ⟨l, rfl, _, hl, hx⟩ := h
    have : ∀ l : List (List SV), (∀ x ∈ l, ShW Tryz.prog n e x) → ∃ ts : List α, l = ts.map f ∧ ∀ a ∈ ts, Q a := by
      intro l
      induction l with
      | nil => intro _; exact ⟨[], rfl, fun a ha => by cases ha⟩
      | cons x r ih =>
        intro h
        obtain ⟨a, rfl, ha⟩ := hd (h x (by simp))
        obtain ⟨ts, rfl, hts⟩ := ih fun y hy => h y (by simp [hy])
        refine ⟨a :: ts, rfl, fun b hb => ?_⟩
        rcases List.mem_cons.1 hb with rfl | hb
        · exact ha
        · exact hts b hb
    obtain ⟨ts, rfl, hts⟩ := this l hx
    refine ⟨ts, ?_, by rw [← hb]; simpa using hl, hts⟩
    simp [sl, List.flatMap]
theorem bytesOf28 : Tryz.prog.bytesOf 28 = 32 := by kernel_rfl
theorem bytesOf3 : Tryz.prog.bytesOf 3 = 8 := by kernel_rfl
theorem bytesOf57 : Tryz.prog.bytesOf 57 = 128 := by kernel_rfl
theorem bytesOf108 : Tryz.prog.bytesOf 108 = 16 := by kernel_rfl
def okL (l : List Atom) : Prop := l.length * 32 ≤ reachBytes ∧ ∀ a ∈ l, a.ok
theorem decW53 {n : Nat} {cs : List SV} (h : ShW Tryz.prog n 53 cs) : ∃ l : List Atom, cs = [atoms l] ∧ okL l := by
  obtain ⟨l, h1, h2, h3⟩ := decW_slice (f := ac) (Q := Atom.ok) Tryz.underlying53 bytesOf28 h decW28
  exact ⟨l, h1, h2, h3⟩
theorem decW55 {n : Nat} {cs : List SV} (h : ShW Tryz.prog n 55 cs) : ∃ e : Expr, cs = e.t55.enc ∧ okL e.l := by
  cases n with
  | zero => exact h.elim
  | succ n =>
    simp only [ShW, Tryz.underlying55, List.map, parts] at h
    obtain ⟨_, _, rfl, h1, _, _, rfl, h2, _, _, rfl, h3, _, _, rfl, h4, _, _, rfl, h5, rfl⟩ := h
    obtain ⟨a, _, rfl⟩ := decW_int Tryz.underlying3 h1
    obtain ⟨b, _, rfl⟩ := decW_int Tryz.underlying3 h2
    obtain ⟨c, _, rfl⟩ := decW_int Tryz.underlying3 h3
    obtain ⟨d, _, rfl⟩ := decW_int Tryz.underlying3 h4
    obtain ⟨l, rfl, hl⟩ := decW53 h5
    exact ⟨⟨a, b, c, d, l⟩, rfl, hl⟩
theorem decW57 {n : Nat} {cs : List SV} (h : ShW Tryz.prog n 57 cs) : ∃ s : Stmt, cs = sc s ∧ okL s.e.l ∧ okL s.l := by
  cases n with
  | zero => exact h.elim
  | succ n =>
    simp only [ShW, Tryz.underlying57, List.map, parts] at h
    obtain ⟨_, _, rfl, h1, _, _, rfl, h2, _, _, rfl, h3, _, _, rfl, h4, _, _, rfl, h5, _, _, rfl, h6, _, _, rfl, h7, _, _, rfl, h8, _, _, rfl, h9, rfl⟩ := h
    obtain ⟨a1, _, rfl⟩ := decW_int Tryz.underlying3 h1
    obtain ⟨a2, _, rfl⟩ := decW_int Tryz.underlying3 h2
    obtain ⟨a3, _, rfl⟩ := decW_int Tryz.underlying3 h3
    obtain ⟨a4, _, rfl⟩ := decW_int Tryz.underlying3 h4
    obtain ⟨a5, _, rfl⟩ := decW_int Tryz.underlying3 h5
    obtain ⟨a6, _, rfl⟩ := decW_u32 h6
    obtain ⟨a7, _, rfl⟩ := decW_u32 h7
    obtain ⟨e, rfl, he⟩ := decW55 h8
    obtain ⟨l, rfl, hl⟩ := decW53 h9
    exact ⟨⟨a1, a2, a3, a4, a5, a6, a7, e, l⟩, rfl, he, hl⟩
theorem decW108 {n : Nat} {cs : List SV} (h : ShW Tryz.prog n 108 cs) : ∃ p : Span, cs = pc p ∧ True := by
  cases n with
  | zero => exact h.elim
  | succ n =>
    simp only [ShW, Tryz.underlying108, List.map, parts] at h
    obtain ⟨_, _, rfl, h1, _, _, rfl, h2, rfl⟩ := h
    obtain ⟨a, _, rfl⟩ := decW_u32 h1
    obtain ⟨b, _, rfl⟩ := decW_int Tryz.underlying3 h2
    exact ⟨⟨a, b⟩, rfl, trivial⟩
theorem decW3 {n : Nat} {cs : List SV} (h : ShW Tryz.prog n 3 cs) : ∃ x : Int, cs = ic .i64 x ∧ True := by
  obtain ⟨a, _, rfl⟩ := decW_int Tryz.underlying3 h
  exact ⟨a, rfl, trivial⟩
/-- What holds of a block that came in. -/
structure InB (b : Block) : Prop where
  tmps : b.tmps.length * 8 ≤ reachBytes
  l : b.l.length * 128 ≤ reachBytes
  spans : b.spans.length * 16 ≤ reachBytes
  next : b.next.ok
  st : ∀ s ∈ b.l, okL s.e.l ∧ okL s.l
theorem decW31 {n : Nat} {cs : List SV} (h : ShW Tryz.prog n 31 cs) : ∃ b : Block, cs = b.t31.enc ∧ InB b := by
  cases n with
  | zero => exact h.elim
  | succ n =>
    simp only [ShW, Tryz.underlying31, List.map, parts] at h
    obtain ⟨_, _, rfl, h1, _, _, rfl, h2, _, _, rfl, h3, _, _, rfl, h4, _, _, rfl, h5, rfl⟩ := h
    obtain ⟨tm, rfl, b1, _⟩ := decW_slice (f := ic .i64) (Q := fun _ => True) Tryz.underlying22 bytesOf3 h1 decW3
    obtain ⟨l, rfl, b2, hl⟩ := decW_slice (f := sc) (Q := fun s => okL s.e.l ∧ okL s.l) Tryz.underlying23 bytesOf57 h2 decW57
    obtain ⟨nx, rfl, b3⟩ := decW28 h3
    obtain ⟨j, _, rfl⟩ := decW_int Tryz.underlying3 h4
    obtain ⟨sp, rfl, b4, _⟩ := decW_slice (f := pc) (Q := fun _ => True) Tryz.underlying29 bytesOf108 h5 decW108
    exact ⟨⟨tm, l, nx, j, sp⟩, rfl, b1, b2, b4, b3, hl⟩
end Go.Sv
end
section
namespace Go.Sv
open Go Go.Proofs Go.Proofs.YtkflapebfmcmaaaGreat
set_option linter.all false
set_option maxRecDepth 100000

theorem spec53x (b : Block) (h0 : b.l.length ≤ 1000000000000000) (S : St) : ∃ v : Int, run kt (.func 53 [] []) [.agg b.t31.enc] S = some (.tuple [.v (.int .i64 (b.l.length : Int)), .v (.int .i64 v)], S) := by
  suffices ∃ v : Int, cBody (kt.at 53) h53 (run kt) (b.l.length + 1) (compF Tryz.f53) [.agg b.t31.enc] St0 = some (.tuple [.v (.int .i64 (b.l.length : Int)), .v (.int .i64 v)], St0) by
    obtain ⟨v, h⟩ := this
    exact ⟨v, go_closed ks_kt (f := 53) (fst := []) (cap := []) (args := [.agg b.t31.enc]) (S := S) h53 (b.l.length + 1) rfl (fn_kt 53 fn53) rfl (z := (.tuple [.v (.int .i64 (b.l.length : Int)), .v (.int .i64 v)], St0)) (by
      simp only [List.nil_append, List.append_nil, List.map_cons, List.map_nil, block_ws]
      exact h)⟩
  rw [tell53]
  simp only [splitB_dec]
  generalize hF : (fun vs0 S1 => _ : List SV → St → Option (Ex × List SV × St)) = F
  obtain ⟨vs, S', h1, rfl, a, rfl⟩ := iter_inv 0 (F := F) b.l.length (fun i vs S' => S' = St0 ∧ ∃ a : Int, vs = [.v (.int .i64 a), .v (.int .i64 (i : Int))])
    (fun i hi vs S' hI => by
      obtain ⟨rfl, a, rfl⟩ := hI
      have hlt : ((i : Nat) : Int) < ((b.l.length : Nat) : Int) := by omega
      rw [← hF]
      simp only [openHd_v, openInt_v, Block.t31, len_stmts (P_kt 53), Option.bind_some]
      rw [if_pos hlt, index_stmts (P_kt 53) .i64 b.l i hi]
      simp only [Option.bind_some, openCp57']
      simp only [Stmt.t57, len_atoms (P_kt 53), Option.bind_some, openInt_v]
      rw [wrap_in (a := (i : Int) + 1) (by omega) (by omega)]
      exact ⟨_, _, rfl, rfl, _, rfl⟩)
    (fun vs S' hI => by
      obtain ⟨rfl, a, rfl⟩ := hI
      rw [← hF]
      simp only [openHd_v, openInt_v, Block.t31, len_stmts (P_kt 53), Option.bind_some]
      rw [if_neg (by omega)])
    b.l.length 0 rfl [.v (.int .i64 1), .v (.int .i64 0)] St0 (b.l.length + 1) ⟨rfl, _, rfl⟩ (by omega)
  rw [h1]
  refine ⟨a, ?_⟩
  simp only [Option.bind_some, openHd_v, openInt_v, exits_exit, if_true, Block.t31, len_stmts (P_kt 53)]
theorem spec13x (b : Block) (h0 : b.l.length ≤ 1000000000000000) (h1 : 300 < b.l.length) (S : St) : run kt (.func 13 [] []) [.agg b.t31.enc] S = some (.v (.bool false), S) := by
  refine closed_bool h13 0 rfl (fn_kt 13 fn13) rfl ?_
  simp only [List.map_cons, List.map_nil, block_ws]
  rw [tell13]
  obtain ⟨v, e⟩ := spec53x b h0 St0
  rw [e]
  simp only [Option.bind_some, openTup, openHd_v, openInt_v, openNil]
  rw [show decide ((b.l.length : Int) ≤ 300) = false from decide_eq_false (by omega), splitB_f]
  simp only [Option.bind_some, openHd_v, openBool_v]
  exact exB _ _

theorem stB_out (b : Block) (hB : ∀ s ∈ b.l, s.l.length ≤ 1000000 ∧ s.e.l.length ≤ 1000000) : ∀ i, i ≤ b.l.length → ∀ x ∈ (stB b (b.l.take i)).1, TBs x ∧ x.l.length ≤ 1000000 := by
  intro i
  induction i with
  | zero => intro _ x hx; simp [stB] at hx
  | succ i ih =>
    intro hi
    have ih := ih (by omega)
    obtain ⟨_, h2⟩ := stB_bnd b hB i (by omega)
    have hb := hB b.l[i] (List.getElem_mem (by omega))
    rw [List.take_succ_eq_append_getElem (by omega), stB_snoc]
    generalize stB b (b.l.take i) = c at ih h2
    generalize b.l[i] = s at hb
    obtain ⟨g1, g2, g3⟩ := stmtR_TB hb.1 hb.2 h2
    have hx0 : (stmtR s c.2).1.l.length ≤ 1000000 := by
      by_cases hk : s.kind = 2
      · have : (stmtR s c.2).1.l = [] := by unfold stmtR; rw [if_pos hk]; rfl
        rw [this]; simp
      · rw [(stmtR_kind s c.2).2.2.2 hk]; exact hb.1
    have hset : ∀ p ∈ (stmtR s c.2).2, TBs (setT p) ∧ (setT p).l.length ≤ 1000000 := fun p hp => ⟨⟨g2 p hp, fun t ht => by simp [setT] at ht⟩, by simp [setT]⟩
    unfold stepB
    simp only
    have ho : ∀ x ∈ c.1 ++ ((stmtR s c.2).2.filter fun p => distM b.tmps (stmtR s c.2).1 p.2).map setT, TBs x ∧ x.l.length ≤ 1000000 := by
      intro x hx
      rcases List.mem_append.1 hx with hx | hx
      · exact ih x hx
      · obtain ⟨p, hp, rfl⟩ := List.mem_map.1 hx
        exact hset p (List.mem_filter.1 hp).1
    split
    · exact ho
    · intro x hx
      rcases List.mem_append.1 hx with hx | hx
      · exact ho x hx
      · simp only [List.mem_singleton] at hx; subst hx; exact ⟨g1, hx0⟩

theorem buildR_BT (b : Block) (hB : ∀ s ∈ b.l, s.l.length ≤ 1000000 ∧ s.e.l.length ≤ 1000000) : BT (buildR b).1 := by
  unfold buildR
  by_cases herr : errB b = 0
  · rw [if_neg (by simpa using herr)]
    obtain ⟨⟨l1, l2, l3, _, _⟩, _, _⟩ := okB_facts herr
    have hb := stB_bnd b hB b.l.length (Nat.le_refl _)
    have ho := stB_out b hB b.l.length (Nat.le_refl _)
    rw [List.take_length] at hb ho
    exact ⟨by show b.tmps.length ≤ _; omega, by show (stB b b.l).1.length ≤ _; omega, by show b.spans.length ≤ _; omega, pick_TB (leaf_TB _) hb.2, ho⟩
  · rw [if_pos herr]
    exact ⟨by simp [zTB], by simp [zTB], by simp [zTB], leaf_TB zA, fun s hs => by simp [zTB] at hs⟩

/-- What small lets in is small. -/
theorem small_facts {b : Block} (h : smallM b = true) : b.l.length ≤ 300 ∧ sumA b.l ≤ 3000 ∧ b.tmps.length ≤ 4100 ∧ b.spans.length ≤ 200 := by
  unfold smallM at h
  simp only [Bool.and_eq_true, decide_eq_true_eq] at h
  omega
theorem sumA_mem : ∀ {l : List Stmt} {s : Stmt}, s ∈ l → s.l.length + s.e.l.length ≤ sumA l
  | x :: r, s, h => by
    rw [sumA_cons]
    rcases List.mem_cons.1 h with rfl | h
    · omega
    · have := sumA_mem h; omega
theorem sumA_le : ∀ {l : List Stmt} {c : Nat}, (∀ s ∈ l, s.l.length ≤ c ∧ s.e.l.length ≤ c) → sumA l ≤ l.length * (2 * c)
  | [], c, _ => by simp [sumA]
  | x :: r, c, h => by
    have h1 := sumA_le (l := r) (c := c) fun s hs => h s (by simp [hs])
    have h2 := h x (by simp)
    rw [sumA_cons, List.length_cons, Nat.add_mul]; omega
theorem okL_len {l : List Atom} (h : okL l) : l.length ≤ 4398046511104 := by
  have := h.1
  have e : reachBytes = 140737488351232 := by decide
  omega
theorem inB_len {b : Block} (h : InB b) : b.l.length ≤ 1000000000000000 ∧ b.tmps.length ≤ 1000000000000000 ∧ b.spans.length ≤ 1000000000000000 := by
  have e : reachBytes = 140737488351232 := by decide
  have h1 := h.tmps
  have h2 := h.l
  have h3 := h.spans
  omega
/-- A block that came in is small, or it is let go. -/
theorem spec13i {b : Block} (h : InB b) (S : St) : ∃ c, run kt (.func 13 [] []) [.agg b.t31.enc] S = some (.v (.bool c), S) ∧ (c = true → b.l.length ≤ 300 ∧ sumA b.l ≤ 3000 ∧ b.tmps.length ≤ 4100 ∧ b.spans.length ≤ 200) := by
  obtain ⟨h1, h2, h3⟩ := inB_len h
  by_cases hl : b.l.length ≤ 300
  · have hs : sumA b.l ≤ b.l.length * (2 * 4398046511104) := sumA_le fun s hs => ⟨okL_len (h.st s hs).2, okL_len (h.st s hs).1⟩
    exact ⟨smallM b, spec13 b h1 (by omega) S, small_facts⟩
  · exact ⟨false, spec13x b h1 (by omega) S, fun h => by cases h⟩
theorem small_bnd {b : Block} (h : InB b) (hs : sumA b.l ≤ 3000) : bndB b := fun s hm => by
  have := sumA_mem hm
  exact ⟨⟨by omega, by omega⟩, (h.st s hm).2.2, (h.st s hm).1.2⟩

theorem run12b (S : St) : run kt (.func 12 [] []) [] S = some (.v (.bool true), S) := run_prim (k := kt) (p := saneP) rfl rfl
/-- TreeBuilds. -/
theorem builds_law {b : Block} (h : InB b) : ∃ S', run kt (.func 3 [] []) [.agg b.t31.enc] St0 = some (.v (.bool true), S') := by
  refine ⟨St0, closed_bool h3 0 rfl (fn_kt 3 fn3) rfl ?_⟩
  simp only [List.map_cons, List.map_nil, block_ws]
  rw [tell3, run12b]
  simp only [Option.bind_some, openBool_v, Bool.not_true, splitB_f]
  obtain ⟨c, e13, hc⟩ := spec13i h St0
  rw [e13]
  simp only [Option.bind_some, openBool_v]
  cases c with
  | false => simp only [Bool.not_false, splitB_t]; exact exB _ _
  | true =>
    simp only [Bool.not_true, splitB_f]
    obtain ⟨l1, l2, l3, l4⟩ := hc rfl
    have hB := small_bnd h l2
    have hBT := buildR_BT b fun s hs => by have := sumA_mem hs; omega
    have ho : ∀ {Z : Type} (t : T39) (K : cd39.α → Option Z), openAgg cd39 (.agg t.enc) K = K t := fun _ _ => rfl
    rw [spec14 b hB (by omega) (by omega) (by omega) h.next, build_eq]
    simp only [Option.bind_some, openTup, openHd_v, ho, openInt_v, openNil]
    rw [show (SObj.cells [(.v (.slice none 0 0)), (.v (.slice none 0 0)), (.v (.int .i64 (0 : Int))), (.v (.int .i64 (0 : Int))), (.v (.int .u32 (0 : Int))), (.v (.int .u32 (0 : Int))), (.v (.int .u32 (0 : Int))), (.v (.int .u32 (0 : Int))), (.v (.int .i64 (0 : Int))), (.v (.int .i64 (0 : Int))), (.v (.int .i64 (0 : Int))), (.v (.int .i64 (0 : Int))), (.v (.slice none 0 0)), (.v (.int .i64 (0 : Int))), (.v (.slice none 0 0))]) = .cells z39 from rfl]
    rw [store_box (sz39 (P_kt 3)) (by decide) (Nat.zero_le _) rfl rfl, spec15 b hB (by omega) (by omega) (by omega)]
    simp only [Option.bind_some, openTup, openHd_v, ho, openInt_v, openNil]
    rw [store_box (sz39 (P_kt 3)) (by decide) (by rw [boxed_floor, boxed_next]; exact Nat.zero_le _) rfl rfl]
    simp only [beq_self_eq_true, splitB_t]
    rw [load_box (agg_st (P_kt 3) Tryz.underlying39) (sz39 (P_kt 3)) rfl]
    rw [ldN (agg_st (P_kt 3) Tryz.underlying39) (sz39 (P_kt 3)) (b := St0.next) (cs := (buildR b).1.t39.enc) (by rw [boxed_get _ _ _ _ (by rw [boxed_next]; omega), boxed_self]) rfl]
    simp only [Option.bind_some, ho]
    rw [spec16 _ hBT]
    simp only [Option.bind_some, openBool_v, openHd_v]
    exact exB _ _
end Go.Sv
end
