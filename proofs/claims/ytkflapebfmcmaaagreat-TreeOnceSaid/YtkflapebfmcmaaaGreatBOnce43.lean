/- Parts of the proofs of this seat's laws. -/
import Derived.Test.YtkflapebfmcmaaaGreatBOnce42
section
namespace Go.Sv
open Go Go.Proofs Go.Proofs.YtkflapebfmcmaaaGreat
set_option linter.all false
set_option maxRecDepth 100000

theorem sz4k {k : K} (hP : k.P = Tryz.prog) : size? k 4 = some 1 := size_of hP size4
theorem ag164 {k : K} (hP : k.P = Tryz.prog) : agg? k 164 = some false := by unfold agg?; rw [hP, Tryz.underlying164]
theorem sz164 {k : K} (hP : k.P = Tryz.prog) : size? k 164 = some 1 := size_of hP (by kernel_rfl)

/-- The boxes of a loop over a tree's nodes, from `S0.next` on. -/
structure InvT (S0 : St) (fn : FuncId) (ρ : Nat → SV) (ps : List Nat) (asg bd : CC) (d : Bool) (p : Option CC) (S : St) : Prop where
  fl : S.floor = S0.floor
  nx : S0.next + 4 ≤ S.next
  c0 : S.get S0.next = .cells [.v (.bool d)]
  c1 : S.get (S0.next + 1) = .cells [.func 177 [] [.ptr (S0.next + 1) 0]]
  c2 : S.get (S0.next + 2) = .dfr
  c3 : S.get (S0.next + 3) = .loop ⟨fn, ρ, ps, asg, bd, S0.next + 2, p, false⟩
  old : ∀ b, b < S0.next → S.get b = S0.get b
theorem InvT.box {S0 : St} {fn : FuncId} {ρ : Nat → SV} {ps : List Nat} {asg bd : CC} {d : Bool} {p : Option CC} {S : St} (h : InvT S0 fn ρ ps asg bd d p S) (z o : SObj) : InvT S0 fn ρ ps asg bd d p (boxed S z o) := by
  obtain ⟨f, n, c0, c1, c2, c3, old⟩ := h
  exact ⟨f, by rw [boxed_next]; omega, by rw [boxed_get _ _ _ _ (by omega)]; exact c0, by rw [boxed_get _ _ _ _ (by omega)]; exact c1, by rw [boxed_get _ _ _ _ (by omega)]; exact c2, by rw [boxed_get _ _ _ _ (by omega)]; exact c3, fun b hb => by rw [boxed_get _ _ _ _ (by omega)]; exact old b hb⟩

/-- The start of such a loop. -/
theorem invT0 (S0 : St) (fn : FuncId) (ρ : Nat → SV) (ps : List Nat) (asg bd : CC) : InvT S0 fn ρ ps asg bd false none (mkLoop fn ρ ps asg bd (boxed (S0.alloc (.cells [.v (.bool false)])) (.cells [.v .nilFunc]) (.cells [.func 177 [] [.ptr (S0.next + 1) 0]]))) := by
  have n1 : (boxed (S0.alloc (.cells [.v (.bool false)])) (.cells [.v .nilFunc]) (.cells [.func 177 [] [.ptr (S0.next + 1) 0]])).next = S0.next + 2 := rfl
  have g1 := boxed_self (S0.alloc (.cells [.v (.bool false)])) (.cells [.v .nilFunc]) (.cells [.func 177 [] [.ptr (S0.next + 1) 0]])
  have gb := boxed_get (S0.alloc (.cells [.v (.bool false)])) (.cells [.v .nilFunc]) (.cells [.func 177 [] [.ptr (S0.next + 1) 0]])
  have f1 : (boxed (S0.alloc (.cells [.v (.bool false)])) (.cells [.v .nilFunc]) (.cells [.func 177 [] [.ptr (S0.next + 1) 0]])).floor = S0.floor := rfl
  generalize boxed (S0.alloc (.cells [.v (.bool false)])) (.cells [.v .nilFunc]) (.cells [.func 177 [] [.ptr (S0.next + 1) 0]]) = S1 at n1 g1 gb f1
  have e1 : (S0.alloc (.cells [.v (.bool false)])).next = S0.next + 1 := rfl
  rw [e1] at g1 gb
  have a0 : (S0.alloc (.cells [.v (.bool false)])).get S0.next = .cells [.v (.bool false)] := by simp [St.alloc]
  unfold mkLoop
  refine ⟨f1, by simp [St.alloc, n1], ?_, ?_, ?_, ?_, ?_⟩
  · rw [get_new _ _ _ (by simp [St.alloc, n1]; omega), get_new _ _ _ (by omega), gb _ (by omega), a0]
  · rw [get_new _ _ _ (by simp [St.alloc, n1] <;> omega), get_new _ _ _ (by omega), g1]
  · rw [get_new _ _ _ (by simp [St.alloc, n1])]; simp [St.alloc, n1]
  · simp [St.alloc, n1]
  · intro b hb
    rw [get_new _ _ _ (by simp [St.alloc, n1]; omega), get_new _ _ _ (by omega), gb _ (by omega), get_new _ _ _ (by omega)]

theorem InvT.busy {S0 : St} {fn : FuncId} {ρ : Nat → SV} {ps : List Nat} {asg bd : CC} {S : St} (h : InvT S0 fn ρ ps asg bd false none S) {Z : Type} (K : St → Option Z) : busyK (S0.next + 3) S K = K (S.put (S0.next + 3) (.loop ⟨fn, ρ, ps, asg, bd, S0.next + 2, none, true⟩)) := by
  unfold busyK
  rw [h.c3]
  simp
/-- A state in a round. -/
structure InvTb (S0 : St) (fn : FuncId) (ρ : Nat → SV) (ps : List Nat) (asg bd : CC) (d : Bool) (S : St) : Prop where
  fl : S.floor = S0.floor
  nx : S0.next + 4 ≤ S.next
  c0 : S.get S0.next = .cells [.v (.bool d)]
  c1 : S.get (S0.next + 1) = .cells [.func 177 [] [.ptr (S0.next + 1) 0]]
  c2 : S.get (S0.next + 2) = .dfr
  c3 : S.get (S0.next + 3) = .loop ⟨fn, ρ, ps, asg, bd, S0.next + 2, none, true⟩
  old : ∀ b, b < S0.next → S.get b = S0.get b
theorem InvT.inb {S0 : St} {fn : FuncId} {ρ : Nat → SV} {ps : List Nat} {asg bd : CC} {S : St} (h : InvT S0 fn ρ ps asg bd false none S) : InvTb S0 fn ρ ps asg bd false (S.put (S0.next + 3) (.loop ⟨fn, ρ, ps, asg, bd, S0.next + 2, none, true⟩)) := by
  obtain ⟨f, n, c0, c1, c2, c3, old⟩ := h
  exact ⟨f, n, by rw [get_put _ _ _ _ (by omega)]; exact c0, by rw [get_put _ _ _ _ (by omega)]; exact c1, by rw [get_put _ _ _ _ (by omega)]; exact c2, put_get _ _ _, fun b hb => by rw [get_put _ _ _ _ (by omega)]; exact old b hb⟩
theorem InvTb.done {S0 : St} {fn : FuncId} {ρ : Nat → SV} {ps : List Nat} {asg bd : CC} {d : Bool} {S : St} (h : InvTb S0 fn ρ ps asg bd d S) (p : Option CC) (b : Bool) : ∃ S', doneK (S0.next + 3) p b S = some (.v (.bool b), S') ∧ InvT S0 fn ρ ps asg bd d p S' := by
  obtain ⟨f, n, c0, c1, c2, c3, old⟩ := h
  refine ⟨S.put (S0.next + 3) (.loop ⟨fn, ρ, ps, asg, bd, S0.next + 2, p, false⟩), by unfold doneK; rw [c3], f, n, by rw [get_put _ _ _ _ (by omega)]; exact c0, by rw [get_put _ _ _ _ (by omega)]; exact c1, by rw [get_put _ _ _ _ (by omega)]; exact c2, put_get _ _ _, fun b hb => by rw [get_put _ _ _ _ (by omega)]; exact old b hb⟩
theorem InvTb.set {S0 : St} {fn : FuncId} {ρ : Nat → SV} {ps : List Nat} {asg bd : CC} {d : Bool} {S : St} (h : InvTb S0 fn ρ ps asg bd d S) {k : K} (hP : k.P = Tryz.prog) (hf : S0.floor ≤ S0.next) (d' : Bool) : ∃ S', (∀ {Z : Type} (K : St → Option Z), storeK k 4 (.ptr S0.next 0) (.v (.bool d')) S K = K S') ∧ InvTb S0 fn ρ ps asg bd d' S' := by
  obtain ⟨f, n, c0, c1, c2, c3, old⟩ := h
  refine ⟨S.put S0.next (.cells [.v (.bool d')]), fun K => st1 (sz4k hP) c0 (by rw [f]; exact hf) (by simp) rfl K, f, n, put_get _ _ _, by rw [get_put _ _ _ _ (by omega)]; exact c1, by rw [get_put _ _ _ _ (by omega)]; exact c2, by rw [get_put _ _ _ _ (by omega)]; exact c3, fun b hb => by rw [get_put _ _ _ _ (by omega)]; exact old b hb⟩
theorem kind_off (y : Tree) : (y.cells.drop 6).head? = some (.v (.int .i64 y.kind)) := by rw [cells_eq]; rfl

/-- The end of such a loop: the verdict lies in the box. -/
theorem InvT.fin {S0 : St} {fn : FuncId} {ρ : Nat → SV} {ps : List Nat} {asg bd : CC} {c : Bool} {S : St} {k : K} (hP : k.P = Tryz.prog) (hf : S0.floor ≤ S0.next) (h : if c = true then InvT S0 fn ρ ps asg bd true (some .ret) S else InvT S0 fn ρ ps asg bd false none S) :
    ∃ S', pendK (S.get (S0.next + 3)) (storeK k 4 (.ptr S0.next 0) (.v (.bool false)) (S.put (S0.next + 3) .dead) fun S1 => dropK [S0.next + 2] S1 fun S2 => (loadE k 4 (.ptr S0.next 0) S2).bind fun x => some (x, S2)) (dropK [S0.next + 2] (S.put (S0.next + 3) .dead) fun S2 => (loadE k 4 (.ptr S0.next 0) S2).bind fun x => some (x, S2)) = some (.v (.bool c), S') ∧ S'.floor = S0.floor ∧ S0.next + 4 ≤ S'.next ∧ ∀ b, b < S0.next → S'.get b = S0.get b := by
  cases c with
  | true =>
    rw [if_pos rfl] at h
    obtain ⟨f, n, c0, c1, c2, c3, old⟩ := h
    rw [c3]
    unfold pendK
    simp only [Bool.false_eq_true, if_false, dropK]
    rw [get_put _ _ _ _ (by omega : S0.next + 2 ≠ S0.next + 3), c2]
    simp only []
    rw [if_pos (by show S.floor ≤ _; rw [f]; omega)]
    rw [ld1 (ag4 hP) (sz4k hP) (cs := [.v (.bool true)]) (by rw [get_put _ _ _ _ (by omega), get_put _ _ _ _ (by omega)]; exact c0)]
    refine ⟨_, rfl, f, n, fun b hb => ?_⟩
    rw [get_put _ _ _ _ (by omega), get_put _ _ _ _ (by omega)]; exact old b hb
  | false =>
    rw [if_neg (by decide)] at h
    obtain ⟨f, n, c0, c1, c2, c3, old⟩ := h
    rw [c3]
    unfold pendK
    simp only [Bool.false_eq_true, if_false]
    rw [st1 (sz4k hP) (cs := [.v (.bool false)]) (by rw [get_put _ _ _ _ (by omega)]; exact c0) (by show S.floor ≤ _; rw [f]; exact hf) (by simp) rfl]
    simp only [dropK]
    rw [get_put _ _ _ _ (by omega : S0.next + 2 ≠ S0.next), get_put _ _ _ _ (by omega : S0.next + 2 ≠ S0.next + 3), c2]
    simp only []
    rw [if_pos (by show S.floor ≤ _; rw [f]; omega)]
    rw [ld1 (ag4 hP) (sz4k hP) (cs := [.v (.bool false)]) (by rw [get_put _ _ _ _ (by omega), put_get]; rfl)]
    refine ⟨_, rfl, f, n, fun b hb => ?_⟩
    rw [get_put _ _ _ _ (by omega), get_put _ _ _ _ (by omega), get_put _ _ _ _ (by omega)]; exact old b hb

theorem TG_l {t : Tree} (h : TG t) : TG t ∧ ∀ x ∈ t.l, TG x := by
  refine ⟨h, ?_⟩
  cases t with
  | mk a k ty op off l => rw [TG] at h; exact TGl_mem h.2.2

theorem round173 (u0 : T37) (y : SV) (t : Tree) (S : St)
    (h : InvT St0 173 (upd (upd (upd (upd (initρ [.agg u0.enc]) 1 (.cp u0.enc)) 2 (.ptr 0 0)) 4 (.agg u0.enc)) 5 y) [6] asg173 bd173 false none S) :
    if (t.kind == 5) = true then ∃ S', run kt (.yield 3) [.agg t.cells] S = some (.v (.bool false), S') ∧ InvT St0 173 (upd (upd (upd (upd (initρ [.agg u0.enc]) 1 (.cp u0.enc)) 2 (.ptr 0 0)) 4 (.agg u0.enc)) 5 y) [6] asg173 bd173 true (some .ret) S'
    else ∃ S', run kt (.yield 3) [.agg t.cells] S = some (.v (.bool true), S') ∧ InvT St0 173 (upd (upd (upd (upd (initρ [.agg u0.enc]) 1 (.cp u0.enc)) 2 (.ptr 0 0)) 4 (.agg u0.enc)) 5 y) [6] asg173 bd173 false none S' := by
  generalize hρ : (upd (upd (upd (upd (initρ [.agg u0.enc]) 1 (.cp u0.enc)) 2 (.ptr 0 0)) 4 (.agg u0.enc)) 5 y) = ρ at h ⊢
  have go : ∀ z, rRound (kt.at 173) hh (run kt) 0 3 ρ [6] asg173 bd173 [.agg t.cells] S = some z → run kt (.yield 3) [.agg t.cells] S = some z := fun z e => gor_round ks_kt hh 0 h.c3 rfl rfl (by rw [h.fl]; decide) rfl e
  have e0 := tellR173 0 3 u0 y t.t37 S
  rw [hρ] at e0
  rw [show T37.enc t.t37 = t.cells from rfl] at e0
  rw [e0] at go
  clear e0 hρ
  rw [show (S.alloc (.cells [(.v (.int .i64 (0 : Int))), (.v (.int .i64 (0 : Int))), (.v (.int .u32 (0 : Int))), (.v (.int .u32 (0 : Int))), (.v (.int .u32 (0 : Int))), (.v (.int .u32 (0 : Int))), (.v (.int .i64 (0 : Int))), (.v (.int .i64 (0 : Int))), (.v (.int .i64 (0 : Int))), (.v (.int .i64 (0 : Int))), (.v (.slice none 0 0))])) = S.alloc (.cells z37) from rfl] at go
  have hz := h.box (.cells z37) (.cells t.cells)
  have hg := boxed_self S (.cells z37) (.cells t.cells)
  have hfl : S.floor ≤ S.next := by rw [h.fl]; exact Nat.zero_le _
  have hn := h.nx
  rw [store_box (sz37' (P_kt 173)) (by decide) hfl rfl (Tree.cells_len _)] at go
  generalize boxed S _ _ = S1 at hz hg go
  generalize S.next = b at hg go hn
  have hb := hz.inb
  have gb : b ≠ 3 := by have h0 : St0.next = 0 := rfl; rw [h0] at hn; omega
  have hbz := hz.busy (Z := SV × St)
  rw [show St0.next + 3 = 3 from rfl] at hbz
  rw [hbz] at go
  rw [show St0.next + 3 = 3 from rfl, show St0.next + 2 = 2 from rfl] at hb
  rw [show St0.next + 2 = 2 from rfl] at go
  have hg2 : (S1.put 3 (.loop ⟨173, ρ, [6], asg173, bd173, 2, none, true⟩)).get b = .cells t.cells := by rw [get_put _ _ _ _ gb]; exact hg
  generalize S1.put 3 _ = S2 at hb hg2 go
  rw [ld1 (ag3 (P_kt 173)) (sz3 (P_kt 173)) hg2, kind_off] at go
  simp only [Option.bind_some, openInt_v] at go
  cases hk : (t.kind == 5) with
  | true =>
    rw [if_pos rfl]
    rw [hk, splitB_t] at go
    obtain ⟨S3, s1, s2⟩ := hb.set (P_kt 173) (Nat.zero_le _) true
    obtain ⟨S4, d1, d2⟩ := s2.done (some .ret) false
    have s1' := s1 (Z := SV × St)
    rw [show St0.next = 0 from rfl] at s1' d1
    rw [s1', d1] at go
    exact ⟨S4, go _ rfl, d2⟩
  | false =>
    rw [if_neg (by decide)]
    rw [hk, splitB_f] at go
    obtain ⟨S4, d1, d2⟩ := hb.done none true
    rw [show St0.next = 0 from rfl] at d1
    rw [d1] at go
    exact ⟨S4, go _ rfl, d2⟩

/-- Whether a tree reads memory. -/
theorem spec173 (t : Tree) (ht : TG t) (S : St) : run kt (.func 173 [] []) [.agg t.cells] S = some (.v (.bool (anyN (fun y => y.kind == 5) t)), S) := by
  suffices ∃ S2, rBody (kt.at 173) hh (run kt) 0 173 (compF Tryz.f173) [.agg t.cells] St0 = some (.v (.bool (anyN (fun y => y.kind == 5) t)), S2) by
    obtain ⟨S2, h1⟩ := this
    exact gor_closed ks_kt (f := 173) (fst := []) (cap := []) (args := [.agg t.cells]) (S := S) hh 0 rfl (fn_kt 173 fn173) rfl (z := (_, S2)) (by
      simp only [List.nil_append, List.append_nil, List.map_cons, List.map_nil, tree_ws]
      exact h1)
  have e0 := tell173 0 t.t37
  rw [show T37.enc t.t37 = t.cells from rfl] at e0
  rw [e0]
  clear e0
  rw [spec128 t _ (Nat.zero_le _), Option.bind_some]
  have hinv := invT0 St0 173 (upd (upd (upd (upd (initρ [.agg t.cells]) 1 (.cp t.cells)) 2 (.ptr 0 0)) 4 (.agg t.cells)) 5 (.func 178 [] [.ptr 1 0, .cp t.cells])) [6] asg173 bd173
  obtain ⟨S1, h1, h2⟩ := spec178 1 3 (InvT St0 173 (upd (upd (upd (upd (initρ [.agg t.cells]) 1 (.cp t.cells)) 2 (.ptr 0 0)) 4 (.agg t.cells)) 5 (.func 178 [] [.ptr 1 0, .cp t.cells])) [6] asg173 bd173 false none) (InvT St0 173 (upd (upd (upd (upd (initρ [.agg t.cells]) 1 (.cp t.cells)) 2 (.ptr 0 0)) 4 (.agg t.cells)) 5 (.func 178 [] [.ptr 1 0, .cp t.cells])) [6] asg173 bd173 true (some .ret)) (fun y => y.kind == 5)
    (fun S h => by rw [h.fl]; exact Nat.zero_le _) (fun S z o h => h.box z o) (fun S h => ⟨by have := h.nx; have : St0.next = 0 := rfl; omega, h.c1⟩) t TG (fun t ht => TG_l ht)
    (fun y S _ h => round173 t.t37 _ y S h) _ ht hinv
  obtain ⟨S2, f1, _⟩ := InvT.fin (P_kt 173) (Nat.zero_le _) h2
  refine ⟨S2, ?_⟩
  refine Eq.trans ?_ f1
  exact congrArg (fun r => Option.bind r _) h1
end Go.Sv
end
section
namespace Go.Sv
open Go Go.Proofs Go.Proofs.YtkflapebfmcmaaaGreat
set_option linter.all false
set_option maxRecDepth 100000

/-- A statement as it lies: its list of trees is told as y. -/
def rawT (x : TStmt) (y : SV) : T59 := { x.t59 with l := y }
theorem rawT_e (x : TStmt) (y : SV) : [(SV.v (.int .i64 (rawT x y).e_A_Tmp)), (.v (.int .i64 (rawT x y).e_A_Ty)), (.v (.int .u32 (rawT x y).e_A_C0)), (.v (.int .u32 (rawT x y).e_A_C1)), (.v (.int .u32 (rawT x y).e_A_C2)), (.v (.int .u32 (rawT x y).e_A_C3)), (.v (.int .i64 (rawT x y).e_Kind)), (.v (.int .i64 (rawT x y).e_Ty)), (.v (.int .i64 (rawT x y).e_Op)), (.v (.int .i64 (rawT x y).e_Off)), (rawT x y).e_L] = x.e.cells := tstmt_e x
theorem rawT_ws (x : TStmt) (y : SV) : weak (shut (.cp (rawT x y).enc)) = .cp (rawT x (shut y)).enc := by
  simp only [rawT, T59.enc, TStmt.t59, shut, shutL, weak, (sl_shut cl_tree x.e.l).1]

theorem spec174 (x : TStmt) (yl : SV) (t : Tree) (S : St) : run kt (.func 174 [] [.cp (rawT x yl).enc]) [.agg t.cells] S = some (.v (.bool (x.kind == 6)), S) :=
  go_closed ks_kt (f := 174) (fst := []) (cap := [.cp (rawT x yl).enc]) (args := [.agg t.cells]) (S := S) h174 0 rfl (fn_kt 174 fn174) rfl (z := (.v (.bool (x.kind == 6)), St0)) (by
    simp only [List.nil_append, List.cons_append, List.map_cons, List.map_nil, tree_ws, rawT_ws]
    exact tell174 0 t.t37 (rawT x (shut yl)))
theorem spec175 (x : TStmt) (yl : SV) (t : Tree) (S : St) : run kt (.func 175 [] [.cp (rawT x yl).enc]) [.agg t.cells] S = some (.v (.bool (x.kind == 7)), S) :=
  go_closed ks_kt (f := 175) (fst := []) (cap := [.cp (rawT x yl).enc]) (args := [.agg t.cells]) (S := S) h175 0 rfl (fn_kt 175 fn175) rfl (z := (.v (.bool (x.kind == 7)), St0)) (by
    simp only [List.nil_append, List.cons_append, List.map_cons, List.map_nil, tree_ws, rawT_ws]
    exact tell175 0 t.t37 (rawT x (shut yl)))
theorem spec172 (x : TStmt) (yl : SV) (hx : TG x.e) (t : Tree) (S : St) : run kt (.func 172 [] [.cp (rawT x yl).enc]) [.agg t.cells] S = some (.v (.bool (x.kind != 2 || anyN (fun y => y.kind == 5) x.e)), S) :=
  go_closed ks_kt (f := 172) (fst := []) (cap := [.cp (rawT x yl).enc]) (args := [.agg t.cells]) (S := S) h172 0 rfl (fn_kt 172 fn172) rfl (z := (.v (.bool (x.kind != 2 || anyN (fun y => y.kind == 5) x.e)), St0)) (by
    simp only [List.nil_append, List.cons_append, List.map_cons, List.map_nil, tree_ws, rawT_ws]
    refine (tell172 0 t.t37 (rawT x (shut yl))).trans ?_
    rw [rawT_e, spec173 x.e hx St0]
    simp only [Option.bind_some, openBool_v, gor, openHd_v]
    rfl)

theorem headTy_get (ty : Tree → Int) (x : TStmt) (h : 0 < x.l.length) : headTy ty x = ty x.l[0] := by
  obtain ⟨a, b, c, d, e, f, g, t, l⟩ := x
  cases l with
  | nil => simp at h
  | cons t r => rfl
/-- A statement's own trees are good, and it holds what it is to hold. -/
structure GS (x : TStmt) (yl : SV) : Prop where
  e : TG x.e
  l : ∀ t ∈ x.l, TG t
  n : x.l.length ≤ 1000000
  rd : Rd' Tree.cells x.l yl
  put : x.kind = 3 → x.l ≠ []
def distT (tmps : List Int) (x : TStmt) (y : Tree) : Bool := distP bytesM w64 (anyN (fun y => y.kind == 5) x.e) x.kind x.off (bytesM (headTy (typP (atomTy tmps) etyM) x)) y
def overT (tmps : List Int) (x : TStmt) (y : Tree) : Bool := x.kind == 3 && (decide (y.off < w64 (x.off + bytesM (headTy (typP (atomTy tmps) etyM) x))) && decide (x.off < w64 (y.off + bytesM y.ty)))

theorem spec176 (tmps : List Int) (x : TStmt) (yl : SV) (g : GS x yl) (t : Tree) {b : Nat} {rest : List SV} {S : St} {tm : SV} (htm : weak (shut tm) = nums tmps) (hb : b < S.next) (hg : S.get b = .cells (tm :: rest)) :
    run kt (.func 176 [] [.cp (rawT x yl).enc, .cp [.ptr b 0]]) [.agg t.cells] S = some (.v (.bool (overT tmps x t)), S) := by
  suffices ∃ S2, cBody (kt.at 176) h176 (run kt) 0 (compF Tryz.f176) [.agg t.cells, .cp (rawT x yl).enc, .cp [.ptr b 0]] (quiet S) = some (.v (.bool (overT tmps x t)), S2) by
    obtain ⟨S2, h1⟩ := this
    exact go_pure ks_kt (f := 176) (fst := []) (cap := [.cp (rawT x yl).enc, .cp [.ptr b 0]]) (args := [.agg t.cells]) (S := S) h176 0 rfl (fn_kt 176 fn176) rfl (z := (_, S2)) (by
      have e1 : weak (.agg t.cells) = .agg t.cells := by simp only [weak, (tree_clean t).2]
      have e2 : ∀ cs, weak (.cp cs) = .cp cs := fun cs => by rw [weak]
      simp only [List.nil_append, List.cons_append, List.map_cons, List.map_nil, e1, e2]
      exact h1)
  have e0 := tell176 0 t.t37 (rawT x yl) b (quiet S)
  rw [show T37.enc t.t37 = t.cells from rfl] at e0
  rw [e0]
  clear e0
  have hb' : b < (quiet S).next := hb
  have hg' : (quiet S).get b = .cells (tm :: rest) := hg
  have k1 : (rawT x yl).kind = x.kind := rfl
  have k2 : (rawT x yl).off = x.off := rfl
  have k3 : (rawT x yl).l = yl := rfl
  rw [k1, k2, k3, if_pos hb', ld1 (ag22 (P_kt 176)) (sz22 (P_kt 176)) hg']
  simp only [List.drop_zero, List.head?_cons, Option.bind_some]
  unfold overT
  cases hk : (x.kind == 3) with
  | false =>
    rw [splitB_f]
    simp only [Option.bind_some, openHd_v, openBool_v, Bool.false_and]
    exact ⟨_, rfl⟩
  | true =>
    have hk3 : x.kind = 3 := by simpa using hk
    have hne := g.put hk3
    have hlen : 0 < x.l.length := List.length_pos_iff.2 hne
    have ix := rd_index (k := kt.at 176) (P_kt 176) Tryz.underlying35 size37 Tree.cells_len g.rd 0 hlen .i64
    have ix : indexAddrE (kt.at 176) 35 yl (.v (.int .i64 0)) = _ := ix
    have hty : headTy (typP (atomTy tmps) etyM) x = typP (atomTy tmps) etyM x.l[0] := headTy_get _ x hlen
    rw [ix, splitB_t]
    simp only [Option.bind_some, openCp37']
    rw [show T37.enc x.l[0].t37 = x.l[0].cells from rfl, closed_congr (f := 103) (args := [tm, .agg x.l[0].cells]) (args' := [nums tmps, .agg x.l[0].cells]) rfl rfl (by simp only [List.map_cons, List.map_nil, htm, nums_ws]), spec103 tmps x.l[0] _ (g.l _ (List.getElem_mem _))]
    simp only [Option.bind_some, openInt_v, spec111, gand]
    have e1 : t.t37.off = t.off := by rw [t37_eq]
    have e2 : t.t37.ty = t.ty := by rw [t37_eq]
    rw [e1, e2, hty]
    simp only [openHd_v, openBool_v, Bool.true_and]
    exact ⟨_, rfl⟩

/-- What the map of the disturbing kinds holds. -/
def dis (u : T59) (b : Nat) : List (SV × SV) := setK 2 (.func 176 [] [.cp u.enc, .cp [.ptr b 0]]) (setK 9 (.func 175 [] [.cp u.enc]) (setK 6 (.func 174 [] [.cp u.enc]) (setK 5 (.func 172 [] [.cp u.enc]) [])))
theorem dis_find (u : T59) (b : Nat) (x : Int) : findK x (dis u b) = if x = 5 then some (.func 172 [] [.cp u.enc]) else if x = 6 then some (.func 174 [] [.cp u.enc]) else if x = 9 then some (.func 175 [] [.cp u.enc]) else if x = 2 then some (.func 176 [] [.cp u.enc, .cp [.ptr b 0]]) else none := by
  simp [dis, setK, findK]
theorem im126 : intMap? (kt.at 126) 164 = some 69 := by kernel_rfl
theorem im127 : intMap? (kt.at 127) 164 = some 69 := by kernel_rfl
theorem z127 : zflat? (kt.at 127) 69 = some .nilFunc := by kernel_rfl

theorem spec126 (u : T59) (b : Nat) (S : St) (hf : S.floor ≤ S.next) : ∃ S', run kt (.func 126 [] []) [.ptr b 0, .agg u.enc] S = some (.map S.next, S') ∧ S'.get S.next = .map (dis u b) ∧ S'.next = S.next + 1 ∧ S'.floor = S.floor ∧ ∀ c, c < S.next → S'.get c = S.get c := by
  have go := fun z h => go_plain ks_kt (f := 126) (fst := []) (cap := []) (args := [.ptr b 0, .agg u.enc]) (S := S) h126 0 rfl (fn_kt 126 fn126) rfl (z := z) h
  simp only [List.nil_append, List.append_nil] at go
  rw [tell126] at go
  have ga : (S.alloc (.map [])).get S.next = .map [] := by simp [St.alloc]
  rw [mapU im126 ga hf rfl, Option.bind_some] at go
  rw [mapU im126 (put_get _ _ _) (by exact hf) rfl, Option.bind_some] at go
  rw [mapU im126 (put_get _ _ _) (by exact hf) rfl, Option.bind_some] at go
  rw [mapU im126 (put_get _ _ _) (by exact hf) rfl, Option.bind_some] at go
  refine ⟨_, go _ rfl, put_get _ _ _, rfl, rfl, fun c hc => ?_⟩
  rw [get_put _ _ _ _ (by omega), get_put _ _ _ _ (by omega), get_put _ _ _ _ (by omega), get_put _ _ _ _ (by omega), get_new _ _ _ hc]

theorem lookT {k : K} {t e : TypeId} (ht : intMap? k t = some e) {z : Value} (hz : zflat? k e = some z) {b : Nat} {y : Int} {S : St} {es : List (SV × SV)} (hg : S.get b = .map es) : lookupE k t (.map b) (.v (.int .i64 y)) true S = some (match findK y es with | some v => .tuple [v, .v (.bool true)] | none => .tuple [.v z, .v (.bool false)]) := by
  simp only [lookupE, ht, hz, hg, Option.bind_some]
  cases findK y es <;> rfl

/-- What settle asks of the state: the disturbers' map, and the builder's temporaries. -/
structure HasD (tmps : List Int) (u : T59) (b c m : Nat) (S : St) : Prop where
  hc : c < S.next
  gc : S.get c = .cells [.map m]
  hm : m < S.next
  gm : S.get m = .map (dis u b)
  hb : b < S.next
  gb : ∃ tm rest, S.get b = .cells (tm :: rest) ∧ weak (shut tm) = nums tmps
theorem HasD.keep {tmps : List Int} {u : T59} {b c m : Nat} {S S' : St} (h : HasD tmps u b c m S) (hn : S.next ≤ S'.next) (hg : ∀ i, i < S.next → S'.get i = S.get i) : HasD tmps u b c m S' := by
  obtain ⟨a1, a2, a3, a4, a5, tm, rest, a6, a7⟩ := h
  exact ⟨by omega, by rw [hg c a1]; exact a2, by omega, by rw [hg m a3]; exact a4, by omega, tm, rest, by rw [hg b a5]; exact a6, a7⟩

/-- The verdict of the map. -/
theorem dis_run (tmps : List Int) (x : TStmt) (yl : SV) (g : GS x yl) (t : Tree) {b c m : Nat} {S : St} (h : HasD tmps (rawT x yl) b c m S) :
    (∃ r, findK t.kind (dis (rawT x yl) b) = some r ∧ run kt r [.agg t.cells] S = some (.v (.bool (distT tmps x t)), S)) ∨ (findK t.kind (dis (rawT x yl) b) = none ∧ distT tmps x t = false) := by
  rw [dis_find]
  unfold distT distP
  by_cases h5 : t.kind = 5
  · rw [if_pos h5, if_pos h5]
    exact .inl ⟨_, rfl, spec172 x yl g.e t S⟩
  rw [if_neg h5, if_neg h5]
  by_cases h6 : t.kind = 6
  · rw [if_pos h6, if_pos h6]
    exact .inl ⟨_, rfl, spec174 x yl t S⟩
  rw [if_neg h6, if_neg h6]
  by_cases h9 : t.kind = 9
  · rw [if_pos h9, if_pos h9]
    exact .inl ⟨_, rfl, spec175 x yl t S⟩
  rw [if_neg h9, if_neg h9]
  by_cases h2 : t.kind = 2
  · rw [if_pos h2, if_pos h2]
    obtain ⟨tm, rest, hr, htm⟩ := h.gb
    exact .inl ⟨_, rfl, spec176 tmps x yl g t htm h.hb hr⟩
  rw [if_neg h2, if_neg h2]
  exact .inr ⟨rfl, rfl⟩

theorem round127 (tmps : List Int) (x : TStmt) (yl : SV) (g : GS x yl) (u0 : T98) (b c m : Nat) (y : SV) (t : Tree) (S0 S : St) (hf0 : S0.floor ≤ S0.next) (hd : HasD tmps (rawT x yl) b c m S0)
    (h : InvT S0 127 (upd (upd (upd (upd (upd (initρ [.agg u0.enc, .ptr c 0]) 2 (.cp u0.enc)) 3 (.ptr S0.next 0)) 7 (.cp (u0.enc.drop 1))) 8 (.agg u0.tree.enc)) 9 y) [10] asg127 bd127 false none S) :
    if distT tmps x t = true then ∃ S', run kt (.yield (S0.next + 3)) [.agg t.cells] S = some (.v (.bool false), S') ∧ InvT S0 127 (upd (upd (upd (upd (upd (initρ [.agg u0.enc, .ptr c 0]) 2 (.cp u0.enc)) 3 (.ptr S0.next 0)) 7 (.cp (u0.enc.drop 1))) 8 (.agg u0.tree.enc)) 9 y) [10] asg127 bd127 true (some .ret) S'
    else ∃ S', run kt (.yield (S0.next + 3)) [.agg t.cells] S = some (.v (.bool true), S') ∧ InvT S0 127 (upd (upd (upd (upd (upd (initρ [.agg u0.enc, .ptr c 0]) 2 (.cp u0.enc)) 3 (.ptr S0.next 0)) 7 (.cp (u0.enc.drop 1))) 8 (.agg u0.tree.enc)) 9 y) [10] asg127 bd127 false none S' := by
  generalize hρ : (upd (upd (upd (upd (upd (initρ [.agg u0.enc, .ptr c 0]) 2 (.cp u0.enc)) 3 (.ptr S0.next 0)) 7 (.cp (u0.enc.drop 1))) 8 (.agg u0.tree.enc)) 9 y) = ρ at h ⊢
  have go : ∀ z, rRound (kt.at 127) hh (run kt) 0 (S0.next + 3) ρ [10] asg127 bd127 [.agg t.cells] S = some z → run kt (.yield (S0.next + 3)) [.agg t.cells] S = some z := fun z e => gor_round ks_kt hh 0 h.c3 rfl rfl (by rw [h.fl]; omega) rfl e
  have e0 := tellR127 0 (S0.next + 3) u0 c S0.next y t.t37 S
  rw [hρ] at e0
  rw [show T37.enc t.t37 = t.cells from rfl] at e0
  rw [e0] at go
  clear e0 hρ
  rw [show (S.alloc (.cells [(.v (.int .i64 (0 : Int))), (.v (.int .i64 (0 : Int))), (.v (.int .u32 (0 : Int))), (.v (.int .u32 (0 : Int))), (.v (.int .u32 (0 : Int))), (.v (.int .u32 (0 : Int))), (.v (.int .i64 (0 : Int))), (.v (.int .i64 (0 : Int))), (.v (.int .i64 (0 : Int))), (.v (.int .i64 (0 : Int))), (.v (.slice none 0 0))])) = S.alloc (.cells z37) from rfl] at go
  have hz := h.box (.cells z37) (.cells t.cells)
  have hg := boxed_self S (.cells z37) (.cells t.cells)
  have hn := h.nx
  have hfl : S.floor ≤ S.next := by rw [h.fl]; omega
  rw [store_box (sz37' (P_kt 127)) (by decide) hfl rfl (Tree.cells_len _)] at go
  generalize boxed S _ _ = S1 at hz hg go
  generalize S.next = bb at hg go hn
  have hb := hz.inb
  rw [hz.busy] at go
  have hg2 : (S1.put (S0.next + 3) (.loop ⟨127, ρ, [10], asg127, bd127, S0.next + 2, none, true⟩)).get bb = .cells t.cells := by rw [get_put _ _ _ _ (by omega)]; exact hg
  generalize S1.put (S0.next + 3) _ = S2 at hb hg2 go
  have hd2 : HasD tmps (rawT x yl) b c m S2 := hd.keep (by have := hb.nx; omega) hb.old
  rw [ld1 (ag164 (P_kt 127)) (sz164 (P_kt 127)) hd2.gc] at go
  simp only [List.drop_zero, List.head?_cons, Option.bind_some] at go
  rw [ld1 (ag3 (P_kt 127)) (sz3 (P_kt 127)) hg2, kind_off] at go
  simp only [Option.bind_some, openInt_v] at go
  rw [lookT im127 z127 hd2.gm] at go
  rcases dis_run tmps x yl g t hd2 with ⟨r, e1, e2⟩ | ⟨e1, e2⟩
  · rw [e1] at go
    simp only [Option.bind_some, extE, List.getElem?_cons_zero, List.getElem?_cons_succ, openBool_v, splitB_t] at go
    rw [ldN (agg_st (P_kt 127) Tryz.underlying37) (sz37' (P_kt 127)) hg2 (Tree.cells_len _)] at go
    simp only [Option.bind_some, openAgg37'] at go
    rw [show T37.enc t.t37 = t.cells from rfl, e2] at go
    simp only [Option.bind_some, openBool_v] at go
    cases hk : distT tmps x t with
    | true =>
      rw [if_pos rfl]
      rw [hk, splitB_t] at go
      obtain ⟨S3, s1, s2⟩ := hb.set (P_kt 127) hf0 true
      obtain ⟨S4, d1, d2⟩ := s2.done (some .ret) false
      rw [s1, d1] at go
      exact ⟨S4, go _ rfl, d2⟩
    | false =>
      rw [if_neg (by decide)]
      rw [hk, splitB_f] at go
      obtain ⟨S4, d1, d2⟩ := hb.done none true
      rw [d1] at go
      exact ⟨S4, go _ rfl, d2⟩
  · rw [e1] at go
    simp only [Option.bind_some, extE, List.getElem?_cons_zero, List.getElem?_cons_succ, openBool_v, splitB_f] at go
    rw [e2, if_neg (by decide)]
    obtain ⟨S4, d1, d2⟩ := hb.done none true
    rw [d1] at go
    exact ⟨S4, go _ rfl, d2⟩

theorem w98_tree (p : Int × Tree) : (w98 p).tree = p.2.t37 := by rw [t37_eq]; rfl

/-- Whether a statement disturbs what waits. -/
theorem spec127 (tmps : List Int) (x : TStmt) (yl : SV) (g : GS x yl) (p : Int × Tree) (hp : TG p.2) {b c m : Nat} {S : St} (hf : S.floor ≤ S.next) (hd : HasD tmps (rawT x yl) b c m S) :
    ∃ S', run kt (.func 127 [] [.ptr c 0]) [.agg (wc p)] S = some (.v (.bool (anyN (distT tmps x) p.2)), S') ∧ S'.floor = S.floor ∧ S.next ≤ S'.next ∧ ∀ i, i < S.next → S'.get i = S.get i := by
  have go : ∀ z, rBody (kt.at 127) hh (run kt) 0 127 (compF Tryz.f127) [.agg (wc p), .ptr c 0] S = some z → run kt (.func 127 [] [.ptr c 0]) [.agg (wc p)] S = some z :=
    fun z h => gor_plain ks_kt (f := 127) (fst := []) (cap := [.ptr c 0]) hh 0 rfl (fn_kt 127 fn127) rfl (by simpa using h)
  have e0 := tell127 0 c (w98 p) S
  rw [w98_enc, w98_tree, show T37.enc p.2.t37 = p.2.cells from rfl] at e0
  rw [e0] at go
  clear e0
  rw [spec128 p.2 _ (by show S.floor ≤ S.next + 1; omega), Option.bind_some] at go
  have hinv := invT0 S 127 (upd (upd (upd (upd (upd (initρ [.agg (wc p), .ptr c 0]) 2 (.cp (wc p))) 3 (.ptr S.next 0)) 7 (.cp ((wc p).drop 1))) 8 (.agg p.2.cells)) 9 (.func 178 [] [.ptr (S.next + 1) 0, .cp p.2.cells])) [10] asg127 bd127
  obtain ⟨S1, h1, h2⟩ := spec178 (S.next + 1) (S.next + 3) (InvT S 127 (upd (upd (upd (upd (upd (initρ [.agg (wc p), .ptr c 0]) 2 (.cp (wc p))) 3 (.ptr S.next 0)) 7 (.cp ((wc p).drop 1))) 8 (.agg p.2.cells)) 9 (.func 178 [] [.ptr (S.next + 1) 0, .cp p.2.cells])) [10] asg127 bd127 false none) (InvT S 127 (upd (upd (upd (upd (upd (initρ [.agg (wc p), .ptr c 0]) 2 (.cp (wc p))) 3 (.ptr S.next 0)) 7 (.cp ((wc p).drop 1))) 8 (.agg p.2.cells)) 9 (.func 178 [] [.ptr (S.next + 1) 0, .cp p.2.cells])) [10] asg127 bd127 true (some .ret)) (distT tmps x)
    (fun S' h => by rw [h.fl]; have := h.nx; omega) (fun S' z o h => h.box z o) (fun S' h => ⟨by have := h.nx; omega, h.c1⟩) p.2 TG (fun t ht => TG_l ht)
    (fun y S' _ h => by
      have := round127 tmps x yl g (w98 p) b c m (.func 178 [] [.ptr (S.next + 1) 0, .cp p.2.cells]) y S S' hf hd
      rw [w98_enc, w98_tree, show T37.enc p.2.t37 = p.2.cells from rfl] at this
      exact this h) _ hp hinv
  obtain ⟨S2, f1, f2, f3, f4⟩ := InvT.fin (P_kt 127) hf h2
  refine ⟨S2, go _ ?_, f2, by omega, f4⟩
  refine Eq.trans ?_ f1
  exact congrArg (fun r => Option.bind r _) h1
end Go.Sv
end
section
namespace Go.Sv
open Go Go.Proofs Go.Proofs.YtkflapebfmcmaaaGreat
set_option linter.all false
set_option maxRecDepth 100000

/-! Lists that lie in a box: what waits. -/
def ArrL (lo : Nat) (w : Wt) (y : SV) (S : St) : Prop := (w = [] ∧ y = .v (.slice none 0 0)) ∨ ∃ b, y = .arr b w.length ∧ S.get b = .arr 12 (w.flatMap wc) ∧ lo ≤ b ∧ b < S.next ∧ S.floor ≤ b
theorem arrL_frame {lo : Nat} {w : Wt} {y : SV} {S S' : St} (h : ArrL lo w y S) (hf : S'.floor = S.floor) (hn : S.next ≤ S'.next) (hg : ∀ c, lo ≤ c → c < S.next → S.get c = .arr 12 (w.flatMap wc) → S'.get c = S.get c) : ArrL lo w y S' := by
  rcases h with h | ⟨b, e, g, b1, b2, b3⟩
  · exact .inl h
  · exact .inr ⟨b, e, by rw [hg b b1 b2 g, g], b1, by omega, by omega⟩
theorem arrL_single {lo : Nat} {w : Wt} {y : SV} {S : St} (h : ArrL lo w y S) : single y = true := by
  rcases h with ⟨_, rfl⟩ | ⟨b, rfl, _⟩ <;> rfl
theorem arrL_len {k : K} (hP : k.P = Tryz.prog) {lo : Nat} {w : Wt} {y : SV} {S : St} (h : ArrL lo w y S) : lenE k 90 y = some (.v (.int .i64 (w.length : Int))) := by
  rcases h with ⟨rfl, rfl⟩ | ⟨b, rfl, _⟩
  · simp [lenE, elem_of hP Tryz.underlying90]
  · simp [lenE, elem_of hP Tryz.underlying90]
theorem wflat_len (w : Wt) : (w.flatMap wc).length = w.length * 12 := flatMap_len wc 12 wc_len w
theorem arrL_index {k : K} (hP : k.P = Tryz.prog) {lo : Nat} {w : Wt} {y : SV} {S : St} (h : ArrL lo w y S) (i : Nat) (hi : i < w.length) : ∃ b, indexAddrE k 90 y (.v (.int .i64 (i : Int))) = some (.ptr b (i * 12)) ∧ S.get b = .arr 12 (w.flatMap wc) ∧ lo ≤ b ∧ b < S.next ∧ S.floor ≤ b ∧ y = .arr b w.length := by
  rcases h with ⟨rfl, rfl⟩ | ⟨b, rfl, g, b1, b2, b3⟩
  · simp at hi
  · refine ⟨b, ?_, g, b1, b2, b3, rfl⟩
    simp only [indexAddrE, hP, Tryz.underlying90, sz98 hP, Option.bind_some]
    rw [if_pos ⟨by omega, by omega⟩]
    simp
theorem arr_load {k : K} (hP : k.P = Tryz.prog) {w : Wt} {b : Nat} {S : St} (h : S.get b = .arr 12 (w.flatMap wc)) (i : Nat) (hi : i < w.length) : loadE k 98 (.ptr b (i * 12)) S = some (.agg (wc w[i])) := by
  simp only [loadE, agg_st hP Tryz.underlying98, sz98 hP, Option.bind_some, h, objCells, takeVal, if_true]
  rw [if_pos (by rw [List.length_drop, wflat_len]; omega), drop_take_flatMap wc 12 wc_len w i hi]
theorem arr_tree {k : K} (hP : k.P = Tryz.prog) {w : Wt} {b : Nat} {S : St} (h : S.get b = .arr 12 (w.flatMap wc)) (i : Nat) (hi : i < w.length) : loadE k 37 (.ptr b (i * 12 + 1)) S = some (.agg w[i].2.cells) := by
  simp only [loadE, agg_st hP Tryz.underlying37, sz37' hP, Option.bind_some, h, objCells, takeVal, if_true]
  rw [if_pos (by rw [List.length_drop, wflat_len]; omega)]
  have e := drop_take_flatMap wc 12 wc_len w i hi
  have e2 : ((w.flatMap wc).drop (i * 12 + 1)).take 11 = (((w.flatMap wc).drop (i * 12)).take 12).drop 1 := by
    rw [List.drop_take, List.drop_drop]
  rw [e2, e]
  rfl

/-- One more waits. -/
theorem arr_append {k : K} {by_ : Nat} {z : List SV} (he : elem? k 90 = some 98) (hs : size? k 98 = some 12) (hb : bytes? k 98 = some by_) (hz : zero? k 98 = some z) (h1 : by_ ≠ 0) (h2 : z.length = 12) (hbx : k.inBox 98 = 1)
    {lo : Nat} {w : Wt} {y : SV} {S : St} (hf : S.floor ≤ S.next) (hl : lo ≤ S.next) (h : ArrL lo w y S) (p : Int × Tree) (hr : (w.length + 1) * by_ ≤ room) :
    ∃ y' S', appendE k 90 y (.arr S.next 1) (S.alloc (.arr 12 (wc p))) = some (y', S') ∧ ArrL lo (w ++ [p]) y' S' ∧ S'.floor = S.floor ∧ S.next < S'.next ∧ ∀ c, c < S.next → (c < lo ∨ ∀ cs, S.get c ≠ .arr 12 cs) → S'.get c = S.get c := by
  have hx := wc_len p
  have hsrc : srcCells (.arr S.next 1) (S.alloc (.arr 12 (wc p))) 12 = some (1, wc p) := by
    simp [srcCells, St.alloc, hx]
  rcases h with ⟨rfl, rfl⟩ | ⟨b, rfl, hg, hbl, hbn, hbf⟩
  · have hr1 : by_ ≤ room := by simpa using hr
    refine ⟨.arr (S.next + 1) 1, (S.alloc (.arr 12 (wc p))).alloc (.arr 12 (wc p)), ?_, .inr ⟨S.next + 1, by simp, by simp [St.alloc], by omega, by simp [St.alloc], by simp [St.alloc]; omega⟩, rfl, by simp [St.alloc]; omega, fun c hc _ => ?_⟩
    · simp only [appendE, he, hs, hb, hz, hsrc, Option.bind_some]
      simp [h1, h2, hbx, hr1]
      rfl
    · rw [get_new _ _ _ (by simp [St.alloc]; omega), get_new _ _ _ hc]
  · have hgb : (S.alloc (.arr 12 (wc p))).get b = .arr 12 (w.flatMap wc) := by rw [get_new _ _ _ hbn]; exact hg
    refine ⟨.arr (S.next + 1) (w.length + 1), ((S.alloc (.arr 12 (wc p))).put b .dead).alloc (.arr 12 (w.flatMap wc ++ wc p)), ?_, .inr ⟨S.next + 1, by simp, by simp [St.alloc, St.put], by omega, by simp [St.alloc, St.put], by simp [St.alloc, St.put]; omega⟩, rfl, by simp [St.alloc, St.put]; omega, fun c hc hcl => ?_⟩
    · simp only [appendE, he, hs, hb, hz, hsrc, Option.bind_some, hgb]
      have hfl' : (S.alloc (SObj.arr 12 (wc p))).floor ≤ b := hbf
      have hw := wflat_len w
      simp [h1, h2, hbx, hfl', hr]
      exact ⟨by simpa using hw, rfl⟩
    · have hcb : c ≠ b := by
        rintro rfl
        rcases hcl with h | h
        · omega
        · exact h _ hg
      rw [get_new _ _ _ (by simp [St.alloc, St.put]; omega), get_put _ _ _ _ hcb, get_new _ _ _ hc]

/-! Statements as they lie. -/
def tscY (q : TStmt × SV) : List SV := (rawT q.1 q.2).enc
theorem tscY_len (q : TStmt × SV) : (tscY q).length = 19 := rfl
def RawY (raw : List (TStmt × SV)) (out : List TStmt) : Prop := raw.map (·.1) = out ∧ ∀ q ∈ raw, Rd' Tree.cells q.1.l q.2
theorem rawY0 : RawY [] [] := ⟨rfl, fun q hq => by simp at hq⟩
theorem RawY.snoc {raw : List (TStmt × SV)} {out : List TStmt} (h : RawY raw out) (q : TStmt × SV) (hq : Rd' Tree.cells q.1.l q.2) : RawY (raw ++ [q]) (out ++ [q.1]) :=
  ⟨by rw [List.map_append, h.1]; rfl, fun p hp => by
    rcases List.mem_append.1 hp with hp | hp
    · exact h.2 p hp
    · simp only [List.mem_singleton] at hp; subst hp; exact hq⟩
theorem tscY_erase {q : TStmt × SV} (h : Rd' Tree.cells q.1.l q.2) (S : St) : eraseL S (tscY q) = tsc q.1 := by
  simp only [tscY, rawT, T59.enc, TStmt.t59, eraseL, erase, weakV, sl_erase cl_tree, rd_erase cl_tree h, tsc]
theorem rawY_erase {raw : List (TStmt × SV)} {out : List TStmt} (h : RawY raw out) {y : SV} (hy : Rd' tscY raw y) (S : St) : erase S y = sl tsc out := by
  have hfl : ∀ raw : List (TStmt × SV), (∀ q ∈ raw, Rd' Tree.cells q.1.l q.2) → eraseL S (raw.flatMap tscY) = (raw.map (·.1)).flatMap tsc := by
    intro raw
    induction raw with
    | nil => intro _; rfl
    | cons q r ih =>
      intro h
      simp only [List.flatMap_cons, eraseL_append, List.map_cons]
      rw [tscY_erase (h q (by simp)) S, ih fun q hq => h q (by simp [hq])]
  have hl : out.length = raw.length := by rw [← h.1]; simp
  rcases hy with ⟨id, rfl⟩ | ⟨rfl, rfl | rfl⟩
  · simp only [erase, hfl raw h.2, h.1, sl, hl]
  · rw [← h.1]; rfl
  · rw [← h.1]; rfl

/-! The builder. -/
/-- The builder's cells; no tree is its block's next yet. -/
def o92 (tm sp yL : SV) (_ : Tree) (j : Int) (um : Nat) (yw : SV) : List SV := [tm, yL, (.v (.int .i64 (0 : Int))), (.v (.int .i64 (0 : Int))), (.v (.int .u32 (0 : Int))), (.v (.int .u32 (0 : Int))), (.v (.int .u32 (0 : Int))), (.v (.int .u32 (0 : Int))), (.v (.int .i64 (0 : Int))), (.v (.int .i64 (0 : Int))), (.v (.int .i64 (0 : Int))), (.v (.int .i64 (0 : Int))), (.v (.slice none 0 0)), .v (.int .i64 j), sp, .map um, yw]
/-- The builder lies at b0; its lists lie from lo on. -/
structure BS (b0 : Nat) (tm sp : SV) (j : Int) (um : Nat) (out : List TStmt) (w : Wt) (lo : Nat) (S : St) : Prop where
  fl : S.floor = 0
  b0lo : b0 < lo
  lon : lo ≤ S.next
  box : ∃ yL raw yw, S.get b0 = .cells (o92 tm sp yL zT j um yw) ∧ RawY raw out ∧ AccL tscY 19 lo raw yL S ∧ ArrL lo w yw S
/-- What may change besides the builder. -/
structure FrB (b0 : Nat) (S S' : St) : Prop where
  fl : S'.floor = S.floor
  nx : S.next ≤ S'.next
  kp : ∀ c, c < S.next → c ≠ b0 → (∀ m, S.get c ≠ .own 19 m) → (∀ cs, S.get c ≠ .arr 12 cs) → S'.get c = S.get c
theorem FrB.refl (b0 : Nat) (S : St) : FrB b0 S S := ⟨rfl, Nat.le_refl _, fun _ _ _ _ _ => rfl⟩
theorem FrB.trans {b0 : Nat} {S S1 S2 : St} (h : FrB b0 S S1) (h2 : FrB b0 S1 S2) : FrB b0 S S2 :=
  ⟨h2.fl.trans h.fl, Nat.le_trans h.nx h2.nx, fun c hc h0 h1 h3 => by
    have e := h.kp c hc h0 h1 h3
    rw [h2.kp c (Nat.lt_of_lt_of_le hc h.nx) h0 (by rw [e]; exact h1) (by rw [e]; exact h3), e]⟩
theorem FrB.of (b0 : Nat) {S S' : St} (hf : S'.floor = S.floor) (hn : S.next ≤ S'.next) (hg : ∀ c, c < S.next → S'.get c = S.get c) : FrB b0 S S' := ⟨hf, hn, fun c hc _ _ _ => hg c hc⟩
theorem BS.keep {b0 : Nat} {tm sp : SV} {j : Int} {um : Nat} {out : List TStmt} {w : Wt} {lo : Nat} {S S' : St} (h : BS b0 tm sp j um out w lo S) (hf : S'.floor = S.floor) (hn : S.next ≤ S'.next) (hg : ∀ c, c < S.next → S'.get c = S.get c) : BS b0 tm sp j um out w lo S' := by
  obtain ⟨f, b, l, yL, raw, yw, g, r, a, ww⟩ := h
  exact ⟨by rw [hf, f], b, by omega, yL, raw, yw, by rw [hg b0 (by omega)]; exact g, r, accL_frame a hf hn fun c hc _ => hg c hc, arrL_frame ww hf hn fun c _ hc _ => hg c hc⟩
theorem BS.boxed {b0 : Nat} {tm sp : SV} {j : Int} {um : Nat} {out : List TStmt} {w : Wt} {lo : Nat} {S : St} (h : BS b0 tm sp j um out w lo S) (z o : SObj) : BS b0 tm sp j um out w lo (boxed S z o) :=
  h.keep rfl (by rw [boxed_next]; omega) fun c hc => boxed_get S z o c hc
end Go.Sv
end
