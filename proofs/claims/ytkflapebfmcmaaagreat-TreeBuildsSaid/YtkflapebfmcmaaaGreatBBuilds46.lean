/- Parts of the proofs of this seat's laws: an interpreter of the program's form, its soundness against the model, or what it answers on this program. -/
import Derived.Test.YtkflapebfmcmaaaGreatBBuilds45
section
namespace Go.Sv
open Go Go.Proofs Go.Proofs.YtkflapebfmcmaaaGreat
set_option linter.all false
set_option maxRecDepth 100000

theorem ag200 {k : K} (hP : k.P = Tryz.prog) : agg? k 200 = some false := by unfold agg?; rw [hP, Tryz.underlying200]
theorem sz200 {k : K} (hP : k.P = Tryz.prog) : size? k 200 = some 1 := size_of hP (by kernel_rfl)

/-- A loop over a list by its index, with a state, that may leave. -/
theorem iter_anyS {α : Type} (ex : Nat) {F : List SV → St → Option (Ex × List SV × St)} (l : List α) (vs : Nat → List SV) (I R : St → Prop) (c : α → Bool) (out : Nat → List SV)
    (hstep : ∀ i (h : i < l.length) S, I S → if c l[i] = true then ∃ S', F (vs i) S = some (.ret, out i, S') ∧ R S' else ∃ S', F (vs i) S = some (.normal, vs (i + 1), S') ∧ I S')
    (hend : ∀ S, I S → F (vs l.length) S = some (.exit ex, vs l.length, S)) {M : Nat} (hM : l.length < M) (S : St) (hI : I S) :
    if l.any c = true then ∃ j S', iter F M (vs 0) S = some (.ret, out j, S') ∧ R S' else ∃ S', iter F M (vs 0) S = some (.exit ex, vs l.length, S') ∧ I S' := by
  suffices ∀ (suf : List α) (i : Nat), l.drop i = suf → i ≤ l.length → ∀ M S, suf.length < M → I S → if suf.any c = true then ∃ j S', iter F M (vs i) S = some (.ret, out j, S') ∧ R S' else ∃ S', iter F M (vs i) S = some (.exit ex, vs l.length, S') ∧ I S' by
    exact this l 0 rfl (by omega) M S hM hI
  intro suf
  induction suf with
  | nil =>
    intro i hd hi M S hM hI
    obtain ⟨M, rfl⟩ : ∃ m, M = m + 1 := ⟨M - 1, by have : 0 < M := hM; omega⟩
    have : l.length ≤ i := by
      have := congrArg List.length hd
      simp at this; omega
    have e : i = l.length := by omega
    subst e
    exact ⟨S, iter_exit (hend S hI), hI⟩
  | cons x r ih =>
    intro i hd hi M S hM hI
    obtain ⟨M, rfl⟩ : ∃ m, M = m + 1 := ⟨M - 1, by rw [List.length_cons] at hM; omega⟩
    have hlt : i < l.length := by
      have := congrArg List.length hd
      simp at this; omega
    have hx : l[i] = x := by
      have := congrArg (fun z => z[0]?) hd
      simp [hlt] at this
      exact this
    have hdr : l.drop (i + 1) = r := by
      have := congrArg List.tail hd
      simpa using this
    have step := hstep i hlt S hI
    rw [hx] at step
    rw [List.any_cons]
    cases hc : c x with
    | true =>
      rw [hc, if_pos rfl] at step
      obtain ⟨S', h1, h2⟩ := step
      rw [Bool.true_or, if_pos rfl]
      exact ⟨i, S', iter_ret h1, h2⟩
    | false =>
      rw [hc, if_neg (by decide)] at step
      obtain ⟨S', h1, h2⟩ := step
      have := ih (i + 1) hdr hlt M S' (by simpa using hM) h2
      rw [Bool.false_or, iter_normal h1]
      exact this

/-- The nodes and leaves of a tree, one by one, as long as the loop goes on. -/
theorem spec177 (b l : Nat) (I R : St → Prop) (c : Tree → Bool)
    (hfl : ∀ S, I S → S.floor ≤ S.next) (hbox : ∀ S z o, I S → I (boxed S z o)) (hfun : ∀ S, I S → b < S.next ∧ S.get b = .cells [.func 177 [] [.ptr b 0]]) (t : Tree)
    (G : Tree → Prop) (hG : ∀ t, G t → TG t ∧ ∀ x ∈ t.l, G x)
    (hround : ∀ y S, G y → I S → if c y = true then ∃ S', run kt (.yield l) [.agg y.cells] S = some (.v (.bool false), S') ∧ R S' else ∃ S', run kt (.yield l) [.agg y.cells] S = some (.v (.bool true), S') ∧ I S') :
    ∀ S, G t → I S → if anyN c t = true then ∃ S', run kt (.func 177 [] [.ptr b 0]) [.agg t.cells, .yield l] S = some (.v (.bool false), S') ∧ R S' else ∃ S', run kt (.func 177 [] [.ptr b 0]) [.agg t.cells, .yield l] S = some (.v (.bool true), S') ∧ I S' := by
  induction t using Tree.ind with
  | h a k ty op off ts ih =>
    intro S hg hI
    have hg' := hG _ hg
    have hlen : ts.length ≤ 1000000 := by have := hg'.1; rw [TG] at this; exact this.1
    have go : ∀ z, cBody (kt.at 177) h177 (run kt) 2000000 (compF Tryz.f177) [.agg (Tree.mk a k ty op off ts).cells, .yield l, .ptr b 0] S = some z → run kt (.func 177 [] [.ptr b 0]) [.agg (Tree.mk a k ty op off ts).cells, .yield l] S = some z :=
      fun z h => go_plain ks_kt (f := 177) (fst := []) (cap := [.ptr b 0]) h177 2000000 rfl (fn_kt 177 fn177) rfl (by simpa using h)
    have e0 := tell177 2000000 (Tree.mk a k ty op off ts).t37 l b S
    rw [show T37.enc (Tree.mk a k ty op off ts).t37 = (Tree.mk a k ty op off ts).cells from rfl] at e0
    rw [e0] at go
    clear e0
    rw [t37_l, show (Tree.mk a k ty op off ts).l = ts from rfl] at go
    simp only [len_sl (P_kt 177) Tryz.underlying35, Option.bind_some, openInt_v, splitB_dec] at go
    generalize hF : (fun vs0 S1 => _ : List SV → St → Option (Ex × List SV × St)) = F at go
    have main := iter_anyS 0 (F := F) ts (fun i => [.v (.bool false), .v (.int .i64 (i : Int))]) I R (anyN c) (fun i => [.v (.bool false), .v (.int .i64 (i : Int))])
      (fun i hi S hI => by
        have hx : ts[i] ∈ ts := List.getElem_mem hi
        have hlt : ((i : Nat) : Int) < ((ts.length : Nat) : Int) := by omega
        have hz := hbox S (.cells z37) (.cells ts[i].cells) hI
        have hb := hfun _ hz
        have hst : ∀ {Z : Type} (K : St → Option Z), storeK (kt.at 177) 37 (.ptr S.next 0) (.agg ts[i].cells) (S.alloc (.cells z37)) K = K (boxed S (.cells z37) (.cells ts[i].cells)) := fun K => store_box (sz37' (P_kt 177)) (by decide) (hfl S hI) rfl (Tree.cells_len _) K
        have hld : loadE (kt.at 177) 37 (.ptr S.next 0) (boxed S (.cells z37) (.cells ts[i].cells)) = some (.agg ts[i].cells) := load_box (agg_st (P_kt 177) Tryz.underlying37) (sz37' (P_kt 177)) (Tree.cells_len _)
        have hrec := ih ts[i] hx (boxed S (.cells z37) (.cells ts[i].cells)) (hg'.2 ts[i] hx) hz
        rw [← hF]
        simp only [openHd_v, openBool_v, openInt_v]
        rw [if_pos hlt, index_sl (P_kt 177) Tryz.underlying35 size37 Tree.cells Tree.cells_len ts i hi]
        simp only [Option.bind_some, openCp37']
        rw [show T37.enc ts[i].t37 = ts[i].cells from rfl]
        rw [show (S.alloc (.cells [(.v (.int .i64 (0 : Int))), (.v (.int .i64 (0 : Int))), (.v (.int .u32 (0 : Int))), (.v (.int .u32 (0 : Int))), (.v (.int .u32 (0 : Int))), (.v (.int .u32 (0 : Int))), (.v (.int .i64 (0 : Int))), (.v (.int .i64 (0 : Int))), (.v (.int .i64 (0 : Int))), (.v (.int .i64 (0 : Int))), (.v (.slice none 0 0))])) = S.alloc (.cells z37) from rfl, hst]
        rw [ld1 (ag200 (P_kt 177)) (sz200 (P_kt 177)) hb.2, hld]
        simp only [List.drop_zero, List.head?_cons, Option.bind_some, openAgg37']
        rw [show T37.enc ts[i].t37 = ts[i].cells from rfl]
        generalize boxed S (.cells z37) (.cells ts[i].cells) = S1 at hrec
        rw [wrap_in (by omega) (by omega)]
        cases hc : anyN c ts[i] with
        | true =>
          rw [hc, if_pos rfl] at hrec
          obtain ⟨S', r1, r2⟩ := hrec
          rw [if_pos rfl, r1]
          exact ⟨S', rfl, r2⟩
        | false =>
          rw [hc, if_neg (by decide)] at hrec
          obtain ⟨S', r1, r2⟩ := hrec
          rw [if_neg (by decide), r1]
          exact ⟨S', rfl, r2⟩)
      (fun S hI => by
        rw [← hF]
        simp only [openHd_v, openBool_v, openInt_v]
        rw [if_neg (by omega)]) (M := 2000000) (by omega) S hI
    rw [anyN, anyNs_any]
    cases hany : ts.any (anyN c) with
    | true =>
      rw [hany, if_pos rfl] at main
      obtain ⟨j, S', m1, m2⟩ := main
      have m1 : iter F 2000000 [.v (.bool false), .v (.int .i64 0)] S = _ := m1
      rw [Bool.true_or, if_pos rfl]
      refine ⟨S', go _ ?_, m2⟩
      rw [m1]; rfl
    | false =>
      rw [hany, if_neg (by decide)] at main
      obtain ⟨S', m1, m2⟩ := main
      have m1 : iter F 2000000 [.v (.bool false), .v (.int .i64 0)] S = _ := m1
      have hr := hround (Tree.mk a k ty op off ts) S' hg m2
      rw [Bool.false_or]
      cases hc : c (Tree.mk a k ty op off ts) with
      | true =>
        rw [hc, if_pos rfl] at hr
        obtain ⟨S2, r1, r2⟩ := hr
        rw [if_pos rfl]
        refine ⟨S2, go _ ?_, r2⟩
        rw [m1]
        simp only [Option.bind_some, openHd_v, openBool_v, openInt_v, exits_exit, if_true, r1]
      | false =>
        rw [hc, if_neg (by decide)] at hr
        obtain ⟨S2, r1, r2⟩ := hr
        rw [if_neg (by decide)]
        refine ⟨S2, go _ ?_, r2⟩
        rw [m1]
        simp only [Option.bind_some, openHd_v, openBool_v, openInt_v, exits_exit, if_true, r1]

theorem spec178 (b l : Nat) (I R : St → Prop) (c : Tree → Bool)
    (hfl : ∀ S, I S → S.floor ≤ S.next) (hbox : ∀ S z o, I S → I (boxed S z o)) (hfun : ∀ S, I S → b < S.next ∧ S.get b = .cells [.func 177 [] [.ptr b 0]]) (t : Tree)
    (G : Tree → Prop) (hG : ∀ t, G t → TG t ∧ ∀ x ∈ t.l, G x)
    (hround : ∀ y S, G y → I S → if c y = true then ∃ S', run kt (.yield l) [.agg y.cells] S = some (.v (.bool false), S') ∧ R S' else ∃ S', run kt (.yield l) [.agg y.cells] S = some (.v (.bool true), S') ∧ I S') (S : St) (hg : G t) (hI : I S) :
    ∃ S', run kt (.func 178 [] [.ptr b 0, .cp t.cells]) [.yield l] S = some (.tuple [], S') ∧ if anyN c t = true then R S' else I S' := by
  have h := spec177 b l I R c hfl hbox hfun t G hG hround S hg hI
  have go : ∀ z, cBody (kt.at 178) h178 (run kt) 0 (compF Tryz.f178) [.yield l, .ptr b 0, .cp t.cells] S = some z → run kt (.func 178 [] [.ptr b 0, .cp t.cells]) [.yield l] S = some z :=
    fun z h => go_plain ks_kt (f := 178) (fst := []) (cap := [.ptr b 0, .cp t.cells]) h178 0 rfl (fn_kt 178 fn178) rfl (by simpa using h)
  have e0 := tell178 0 l b t.t37 S
  rw [show T37.enc t.t37 = t.cells from rfl] at e0
  rw [e0] at go
  clear e0
  rw [ld1 (ag200 (P_kt 178)) (sz200 (P_kt 178)) (hfun S hI).2] at go
  simp only [List.drop_zero, List.head?_cons, Option.bind_some] at go
  cases hc : anyN c t with
  | true =>
    rw [hc, if_pos rfl] at h
    obtain ⟨S', h1, h2⟩ := h
    rw [h1] at go
    exact ⟨S', go _ rfl, by rw [if_pos rfl]; exact h2⟩
  | false =>
    rw [hc, if_neg (by decide)] at h
    obtain ⟨S', h1, h2⟩ := h
    rw [h1] at go
    exact ⟨S', go _ rfl, by rw [if_neg (by decide)]; exact h2⟩

theorem spec128 (t : Tree) (S : St) (hf : S.floor ≤ S.next) : run kt (.func 128 [] []) [.agg t.cells] S = some (.func 178 [] [.ptr S.next 0, .cp t.cells], boxed S (.cells [.v .nilFunc]) (.cells [.func 177 [] [.ptr S.next 0]])) := by
  refine go_plain ks_kt (f := 128) (fst := []) (cap := []) h128 0 rfl (fn_kt 128 fn128) rfl ?_
  simp only [List.nil_append, List.append_nil]
  rw [show t.cells = T37.enc t.t37 from rfl, tell128]
  rw [st1 (S := S.alloc (.cells [.v .nilFunc])) (sz200 (P_kt 128)) (cs := [.v .nilFunc]) (by simp [St.alloc]) hf (by simp) rfl]
  rfl
end Go.Sv
end
section
namespace Go.Sv
open Go Go.Proofs Go.Proofs.YtkflapebfmcmaaaGreat
set_option linter.all false
set_option maxRecDepth 100000

theorem sz4k {k : K} (hP : k.P = Tryz.prog) : size? k 4 = some 1 := size_of hP size4
theorem ag164 {k : K} (hP : k.P = Tryz.prog) : agg? k 164 = some false := by unfold agg?; rw [hP, Tryz.underlying164]
theorem sz164 {k : K} (hP : k.P = Tryz.prog) : size? k 164 = some 1 := size_of hP (by kernel_rfl)

/-- The boxes of a loop over a tree's nodes, from `S0.next` on. -/
structure InvT (S0 : St) (fn : FuncId) (ρ : Nat → SV) (ps : List Nat) (asg bd : CC) (d : Bool) (p : Option CC) (S : St) : Prop where
  fl : S.floor = S0.floor
  nx : S0.next + 4 ≤ S.next
  c0 : S.get S0.next = .cells [.v (.bool d)]
  c1 : S.get (S0.next + 1) = .cells [.func 177 [] [.ptr (S0.next + 1) 0]]
  c2 : S.get (S0.next + 2) = .dfr
  c3 : S.get (S0.next + 3) = .loop ⟨fn, ρ, ps, asg, bd, S0.next + 2, p, false⟩
  old : ∀ b, b < S0.next → S.get b = S0.get b
theorem InvT.box {S0 : St} {fn : FuncId} {ρ : Nat → SV} {ps : List Nat} {asg bd : CC} {d : Bool} {p : Option CC} {S : St} (h : InvT S0 fn ρ ps asg bd d p S) (z o : SObj) : InvT S0 fn ρ ps asg bd d p (boxed S z o) := by
  obtain ⟨f, n, c0, c1, c2, c3, old⟩ := h
  exact ⟨f, by rw [boxed_next]; omega, by rw [boxed_get _ _ _ _ (by omega)]; exact c0, by rw [boxed_get _ _ _ _ (by omega)]; exact c1, by rw [boxed_get _ _ _ _ (by omega)]; exact c2, by rw [boxed_get _ _ _ _ (by omega)]; exact c3, fun b hb => by rw [boxed_get _ _ _ _ (by omega)]; exact old b hb⟩

/-- The start of such a loop. -/
theorem invT0 (S0 : St) (fn : FuncId) (ρ : Nat → SV) (ps : List Nat) (asg bd : CC) : InvT S0 fn ρ ps asg bd false none (mkLoop fn ρ ps asg bd (boxed (S0.alloc (.cells [.v (.bool false)])) (.cells [.v .nilFunc]) (.cells [.func 177 [] [.ptr (S0.next + 1) 0]]))) := by
  have n1 : (boxed (S0.alloc (.cells [.v (.bool false)])) (.cells [.v .nilFunc]) (.cells [.func 177 [] [.ptr (S0.next + 1) 0]])).next = S0.next + 2 := rfl
  have g1 := boxed_self (S0.alloc (.cells [.v (.bool false)])) (.cells [.v .nilFunc]) (.cells [.func 177 [] [.ptr (S0.next + 1) 0]])
  have gb := boxed_get (S0.alloc (.cells [.v (.bool false)])) (.cells [.v .nilFunc]) (.cells [.func 177 [] [.ptr (S0.next + 1) 0]])
  have f1 : (boxed (S0.alloc (.cells [.v (.bool false)])) (.cells [.v .nilFunc]) (.cells [.func 177 [] [.ptr (S0.next + 1) 0]])).floor = S0.floor := rfl
  generalize boxed (S0.alloc (.cells [.v (.bool false)])) (.cells [.v .nilFunc]) (.cells [.func 177 [] [.ptr (S0.next + 1) 0]]) = S1 at n1 g1 gb f1
  have e1 : (S0.alloc (.cells [.v (.bool false)])).next = S0.next + 1 := rfl
  rw [e1] at g1 gb
  have a0 : (S0.alloc (.cells [.v (.bool false)])).get S0.next = .cells [.v (.bool false)] := by simp [St.alloc]
  unfold mkLoop
  refine ⟨f1, by simp [St.alloc, n1], ?_, ?_, ?_, ?_, ?_⟩
  · rw [get_new _ _ _ (by simp [St.alloc, n1]; omega), get_new _ _ _ (by omega), gb _ (by omega), a0]
  · rw [get_new _ _ _ (by simp [St.alloc, n1] <;> omega), get_new _ _ _ (by omega), g1]
  · rw [get_new _ _ _ (by simp [St.alloc, n1])]; simp [St.alloc, n1]
  · simp [St.alloc, n1]
  · intro b hb
    rw [get_new _ _ _ (by simp [St.alloc, n1]; omega), get_new _ _ _ (by omega), gb _ (by omega), get_new _ _ _ (by omega)]

theorem InvT.busy {S0 : St} {fn : FuncId} {ρ : Nat → SV} {ps : List Nat} {asg bd : CC} {S : St} (h : InvT S0 fn ρ ps asg bd false none S) {Z : Type} (K : St → Option Z) : busyK (S0.next + 3) S K = K (S.put (S0.next + 3) (.loop ⟨fn, ρ, ps, asg, bd, S0.next + 2, none, true⟩)) := by
  unfold busyK
  rw [h.c3]
  simp
/-- A state in a round. -/
structure InvTb (S0 : St) (fn : FuncId) (ρ : Nat → SV) (ps : List Nat) (asg bd : CC) (d : Bool) (S : St) : Prop where
  fl : S.floor = S0.floor
  nx : S0.next + 4 ≤ S.next
  c0 : S.get S0.next = .cells [.v (.bool d)]
  c1 : S.get (S0.next + 1) = .cells [.func 177 [] [.ptr (S0.next + 1) 0]]
  c2 : S.get (S0.next + 2) = .dfr
  c3 : S.get (S0.next + 3) = .loop ⟨fn, ρ, ps, asg, bd, S0.next + 2, none, true⟩
  old : ∀ b, b < S0.next → S.get b = S0.get b
theorem InvT.inb {S0 : St} {fn : FuncId} {ρ : Nat → SV} {ps : List Nat} {asg bd : CC} {S : St} (h : InvT S0 fn ρ ps asg bd false none S) : InvTb S0 fn ρ ps asg bd false (S.put (S0.next + 3) (.loop ⟨fn, ρ, ps, asg, bd, S0.next + 2, none, true⟩)) := by
  obtain ⟨f, n, c0, c1, c2, c3, old⟩ := h
  exact ⟨f, n, by rw [get_put _ _ _ _ (by omega)]; exact c0, by rw [get_put _ _ _ _ (by omega)]; exact c1, by rw [get_put _ _ _ _ (by omega)]; exact c2, put_get _ _ _, fun b hb => by rw [get_put _ _ _ _ (by omega)]; exact old b hb⟩
theorem InvTb.done {S0 : St} {fn : FuncId} {ρ : Nat → SV} {ps : List Nat} {asg bd : CC} {d : Bool} {S : St} (h : InvTb S0 fn ρ ps asg bd d S) (p : Option CC) (b : Bool) : ∃ S', doneK (S0.next + 3) p b S = some (.v (.bool b), S') ∧ InvT S0 fn ρ ps asg bd d p S' := by
  obtain ⟨f, n, c0, c1, c2, c3, old⟩ := h
  refine ⟨S.put (S0.next + 3) (.loop ⟨fn, ρ, ps, asg, bd, S0.next + 2, p, false⟩), by unfold doneK; rw [c3], f, n, by rw [get_put _ _ _ _ (by omega)]; exact c0, by rw [get_put _ _ _ _ (by omega)]; exact c1, by rw [get_put _ _ _ _ (by omega)]; exact c2, put_get _ _ _, fun b hb => by rw [get_put _ _ _ _ (by omega)]; exact old b hb⟩
theorem InvTb.set {S0 : St} {fn : FuncId} {ρ : Nat → SV} {ps : List Nat} {asg bd : CC} {d : Bool} {S : St} (h : InvTb S0 fn ρ ps asg bd d S) {k : K} (hP : k.P = Tryz.prog) (hf : S0.floor ≤ S0.next) (d' : Bool) : ∃ S', (∀ {Z : Type} (K : St → Option Z), storeK k 4 (.ptr S0.next 0) (.v (.bool d')) S K = K S') ∧ InvTb S0 fn ρ ps asg bd d' S' := by
  obtain ⟨f, n, c0, c1, c2, c3, old⟩ := h
  refine ⟨S.put S0.next (.cells [.v (.bool d')]), fun K => st1 (sz4k hP) c0 (by rw [f]; exact hf) (by simp) rfl K, f, n, put_get _ _ _, by rw [get_put _ _ _ _ (by omega)]; exact c1, by rw [get_put _ _ _ _ (by omega)]; exact c2, by rw [get_put _ _ _ _ (by omega)]; exact c3, fun b hb => by rw [get_put _ _ _ _ (by omega)]; exact old b hb⟩
theorem kind_off (y : Tree) : (y.cells.drop 6).head? = some (.v (.int .i64 y.kind)) := by rw [cells_eq]; rfl

/-- The end of such a loop: the verdict lies in the box. -/
theorem InvT.fin {S0 : St} {fn : FuncId} {ρ : Nat → SV} {ps : List Nat} {asg bd : CC} {c : Bool} {S : St} {k : K} (hP : k.P = Tryz.prog) (hf : S0.floor ≤ S0.next) (h : if c = true then InvT S0 fn ρ ps asg bd true (some .ret) S else InvT S0 fn ρ ps asg bd false none S) :
    ∃ S', pendK (S.get (S0.next + 3)) (storeK k 4 (.ptr S0.next 0) (.v (.bool false)) (S.put (S0.next + 3) .dead) fun S1 => dropK [S0.next + 2] S1 fun S2 => (loadE k 4 (.ptr S0.next 0) S2).bind fun x => some (x, S2)) (dropK [S0.next + 2] (S.put (S0.next + 3) .dead) fun S2 => (loadE k 4 (.ptr S0.next 0) S2).bind fun x => some (x, S2)) = some (.v (.bool c), S') ∧ S'.floor = S0.floor ∧ S0.next + 4 ≤ S'.next ∧ ∀ b, b < S0.next → S'.get b = S0.get b := by
  cases c with
  | true =>
    rw [if_pos rfl] at h
    obtain ⟨f, n, c0, c1, c2, c3, old⟩ := h
    rw [c3]
    unfold pendK
    simp only [Bool.false_eq_true, if_false, dropK]
    rw [get_put _ _ _ _ (by omega : S0.next + 2 ≠ S0.next + 3), c2]
    simp only []
    rw [if_pos (by show S.floor ≤ _; rw [f]; omega)]
    rw [ld1 (ag4 hP) (sz4k hP) (cs := [.v (.bool true)]) (by rw [get_put _ _ _ _ (by omega), get_put _ _ _ _ (by omega)]; exact c0)]
    refine ⟨_, rfl, f, n, fun b hb => ?_⟩
    rw [get_put _ _ _ _ (by omega), get_put _ _ _ _ (by omega)]; exact old b hb
  | false =>
    rw [if_neg (by decide)] at h
    obtain ⟨f, n, c0, c1, c2, c3, old⟩ := h
    rw [c3]
    unfold pendK
    simp only [Bool.false_eq_true, if_false]
    rw [st1 (sz4k hP) (cs := [.v (.bool false)]) (by rw [get_put _ _ _ _ (by omega)]; exact c0) (by show S.floor ≤ _; rw [f]; exact hf) (by simp) rfl]
    simp only [dropK]
    rw [get_put _ _ _ _ (by omega : S0.next + 2 ≠ S0.next), get_put _ _ _ _ (by omega : S0.next + 2 ≠ S0.next + 3), c2]
    simp only []
    rw [if_pos (by show S.floor ≤ _; rw [f]; omega)]
    rw [ld1 (ag4 hP) (sz4k hP) (cs := [.v (.bool false)]) (by rw [get_put _ _ _ _ (by omega), put_get]; rfl)]
    refine ⟨_, rfl, f, n, fun b hb => ?_⟩
    rw [get_put _ _ _ _ (by omega), get_put _ _ _ _ (by omega), get_put _ _ _ _ (by omega)]; exact old b hb

theorem TG_l {t : Tree} (h : TG t) : TG t ∧ ∀ x ∈ t.l, TG x := by
  refine ⟨h, ?_⟩
  cases t with
  | mk a k ty op off l => rw [TG] at h; exact TGl_mem h.2.2

theorem round173 (u0 : T37) (y : SV) (t : Tree) (S : St)
    (h : InvT St0 173 (upd (upd (upd (upd (initρ [.agg u0.enc]) 1 (.cp u0.enc)) 2 (.ptr 0 0)) 4 (.agg u0.enc)) 5 y) [6] asg173 bd173 false none S) :
    if (t.kind == 5) = true then ∃ S', run kt (.yield 3) [.agg t.cells] S = some (.v (.bool false), S') ∧ InvT St0 173 (upd (upd (upd (upd (initρ [.agg u0.enc]) 1 (.cp u0.enc)) 2 (.ptr 0 0)) 4 (.agg u0.enc)) 5 y) [6] asg173 bd173 true (some .ret) S'
    else ∃ S', run kt (.yield 3) [.agg t.cells] S = some (.v (.bool true), S') ∧ InvT St0 173 (upd (upd (upd (upd (initρ [.agg u0.enc]) 1 (.cp u0.enc)) 2 (.ptr 0 0)) 4 (.agg u0.enc)) 5 y) [6] asg173 bd173 false none S' := by
  generalize hρ : (upd (upd (upd (upd (initρ [.agg u0.enc]) 1 (.cp u0.enc)) 2 (.ptr 0 0)) 4 (.agg u0.enc)) 5 y) = ρ at h ⊢
  have go : ∀ z, rRound (kt.at 173) hh (run kt) 0 3 ρ [6] asg173 bd173 [.agg t.cells] S = some z → run kt (.yield 3) [.agg t.cells] S = some z := fun z e => gor_round ks_kt hh 0 h.c3 rfl rfl (by rw [h.fl]; decide) rfl e
  have e0 := tellR173 0 3 u0 y t.t37 S
  rw [hρ] at e0
  rw [show T37.enc t.t37 = t.cells from rfl] at e0
  rw [e0] at go
  clear e0 hρ
  rw [show (S.alloc (.cells [(.v (.int .i64 (0 : Int))), (.v (.int .i64 (0 : Int))), (.v (.int .u32 (0 : Int))), (.v (.int .u32 (0 : Int))), (.v (.int .u32 (0 : Int))), (.v (.int .u32 (0 : Int))), (.v (.int .i64 (0 : Int))), (.v (.int .i64 (0 : Int))), (.v (.int .i64 (0 : Int))), (.v (.int .i64 (0 : Int))), (.v (.slice none 0 0))])) = S.alloc (.cells z37) from rfl] at go
  have hz := h.box (.cells z37) (.cells t.cells)
  have hg := boxed_self S (.cells z37) (.cells t.cells)
  have hfl : S.floor ≤ S.next := by rw [h.fl]; exact Nat.zero_le _
  have hn := h.nx
  rw [store_box (sz37' (P_kt 173)) (by decide) hfl rfl (Tree.cells_len _)] at go
  generalize boxed S _ _ = S1 at hz hg go
  generalize S.next = b at hg go hn
  have hb := hz.inb
  have gb : b ≠ 3 := by have h0 : St0.next = 0 := rfl; rw [h0] at hn; omega
  have hbz := hz.busy (Z := SV × St)
  rw [show St0.next + 3 = 3 from rfl] at hbz
  rw [hbz] at go
  rw [show St0.next + 3 = 3 from rfl, show St0.next + 2 = 2 from rfl] at hb
  rw [show St0.next + 2 = 2 from rfl] at go
  have hg2 : (S1.put 3 (.loop ⟨173, ρ, [6], asg173, bd173, 2, none, true⟩)).get b = .cells t.cells := by rw [get_put _ _ _ _ gb]; exact hg
  generalize S1.put 3 _ = S2 at hb hg2 go
  rw [ld1 (ag3 (P_kt 173)) (sz3 (P_kt 173)) hg2, kind_off] at go
  simp only [Option.bind_some, openInt_v] at go
  cases hk : (t.kind == 5) with
  | true =>
    rw [if_pos rfl]
    rw [hk, splitB_t] at go
    obtain ⟨S3, s1, s2⟩ := hb.set (P_kt 173) (Nat.zero_le _) true
    obtain ⟨S4, d1, d2⟩ := s2.done (some .ret) false
    have s1' := s1 (Z := SV × St)
    rw [show St0.next = 0 from rfl] at s1' d1
    rw [s1', d1] at go
    exact ⟨S4, go _ rfl, d2⟩
  | false =>
    rw [if_neg (by decide)]
    rw [hk, splitB_f] at go
    obtain ⟨S4, d1, d2⟩ := hb.done none true
    rw [show St0.next = 0 from rfl] at d1
    rw [d1] at go
    exact ⟨S4, go _ rfl, d2⟩

/-- Whether a tree reads memory. -/
theorem spec173 (t : Tree) (ht : TG t) (S : St) : run kt (.func 173 [] []) [.agg t.cells] S = some (.v (.bool (anyN (fun y => y.kind == 5) t)), S) := by
  suffices ∃ S2, rBody (kt.at 173) hh (run kt) 0 173 (compF Tryz.f173) [.agg t.cells] St0 = some (.v (.bool (anyN (fun y => y.kind == 5) t)), S2) by
    obtain ⟨S2, h1⟩ := this
    exact gor_closed ks_kt (f := 173) (fst := []) (cap := []) (args := [.agg t.cells]) (S := S) hh 0 rfl (fn_kt 173 fn173) rfl (z := (_, S2)) (by
      simp only [List.nil_append, List.append_nil, List.map_cons, List.map_nil, tree_ws]
      exact h1)
  have e0 := tell173 0 t.t37
  rw [show T37.enc t.t37 = t.cells from rfl] at e0
  rw [e0]
  clear e0
  rw [spec128 t _ (Nat.zero_le _), Option.bind_some]
  have hinv := invT0 St0 173 (upd (upd (upd (upd (initρ [.agg t.cells]) 1 (.cp t.cells)) 2 (.ptr 0 0)) 4 (.agg t.cells)) 5 (.func 178 [] [.ptr 1 0, .cp t.cells])) [6] asg173 bd173
  obtain ⟨S1, h1, h2⟩ := spec178 1 3 (InvT St0 173 (upd (upd (upd (upd (initρ [.agg t.cells]) 1 (.cp t.cells)) 2 (.ptr 0 0)) 4 (.agg t.cells)) 5 (.func 178 [] [.ptr 1 0, .cp t.cells])) [6] asg173 bd173 false none) (InvT St0 173 (upd (upd (upd (upd (initρ [.agg t.cells]) 1 (.cp t.cells)) 2 (.ptr 0 0)) 4 (.agg t.cells)) 5 (.func 178 [] [.ptr 1 0, .cp t.cells])) [6] asg173 bd173 true (some .ret)) (fun y => y.kind == 5)
    (fun S h => by rw [h.fl]; exact Nat.zero_le _) (fun S z o h => h.box z o) (fun S h => ⟨by have := h.nx; have : St0.next = 0 := rfl; omega, h.c1⟩) t TG (fun t ht => TG_l ht)
    (fun y S _ h => round173 t.t37 _ y S h) _ ht hinv
  obtain ⟨S2, f1, _⟩ := InvT.fin (P_kt 173) (Nat.zero_le _) h2
  refine ⟨S2, ?_⟩
  refine Eq.trans ?_ f1
  exact congrArg (fun r => Option.bind r _) h1
end Go.Sv
end
