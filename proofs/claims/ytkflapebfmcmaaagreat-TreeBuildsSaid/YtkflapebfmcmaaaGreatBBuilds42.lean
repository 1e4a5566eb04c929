/- Parts of the proofs of this seat's laws: an interpreter of the program's form, its soundness against the model, or what it answers on this program. -/
import Derived.Test.YtkflapebfmcmaaaGreatBBuilds41
section
namespace Go.Sv
open Go Go.Proofs Go.Proofs.YtkflapebfmcmaaaGreat
set_option linter.all false
set_option maxRecDepth 100000

/-! The reference of the trees (ref16), function by function. -/
theorem agg_erase {cs : List SV} {S : St} (h : eraseL S cs = cs) : erase S (.agg cs) = .agg cs := by simp only [erase, h]
theorem tup2_erase {x y x' y' : SV} {S : St} (hx : erase S x = x') (hy : erase S y = y') : erase S (.tuple [x, y]) = .tuple [x', y'] := by simp only [erase, eraseL, hx, hy]

theorem leaf_cells (a : Atom) : [(SV.v (.int .i64 a.tmp)), (.v (.int .i64 a.ty)), (.v (.int .u32 a.c0)), (.v (.int .u32 a.c1)), (.v (.int .u32 a.c2)), (.v (.int .u32 a.c3)), (.v (.int .i64 (0 : Int))), (.v (.int .i64 (0 : Int))), (.v (.int .i64 (0 : Int))), (.v (.int .i64 (0 : Int))), sl Tree.cells []] = (leafT a).cells := by
  rw [cells_eq]; rfl
theorem spec68 (a : Atom) (S : St) : run kt (.func 68 [] []) [.agg a.t28.enc] S = some (.agg (leafT a).cells, S) := by
  have := go_closed ks_kt (f := 68) (fst := []) (cap := []) (args := [.agg a.t28.enc]) (S := S) h68 0 rfl (fn_kt 68 fn68) rfl (by
    simp only [List.nil_append, List.append_nil, List.map_cons, List.map_nil, atom_ws]
    exact tell68 0 a.t28)
  rw [this, ← leaf_cells]
  rfl

theorem leaf35 (t : Tree) (S : St) : run kt (.func 35 [] []) [.agg t.t37.enc] S = some (.v (.bool (t.kind == 0)), S) := leaf_spec t S

mutual
/-- Every node's list is of a size. -/
def TB : Tree → Prop
  | .mk _ _ _ _ _ l => l.length ≤ 1000000 ∧ TBl l
def TBl : List Tree → Prop
  | [] => True
  | t :: r => TB t ∧ TBl r
end
theorem TBl_mem : ∀ {l : List Tree}, TBl l → ∀ t ∈ l, TB t
  | x :: r, h, t, ht => by
    rw [TBl] at h
    rcases List.mem_cons.1 ht with rfl | ht
    · exact h.1
    · exact TBl_mem h.2 t ht
theorem TBl_of : ∀ {l : List Tree}, (∀ t ∈ l, TB t) → TBl l
  | [], _ => by rw [TBl]; trivial
  | t :: r, h => by rw [TBl]; exact ⟨h t (by simp), TBl_of fun x hx => h x (by simp [hx])⟩

/-! has, gets. -/
theorem spec129 (kd : Int) (t : Tree) : ∀ (S : St), TB t → run kt (.func 129 [] []) [.agg t.cells, .v (.int .i64 kd)] S = some (.v (.bool (hasM kd t)), S) := by
  induction t using Tree.ind with
  | h a k ty op off l ih =>
    intro S hsz
    rw [TB] at hsz
    have hlen := hsz.1
    refine closed_bool h129 (l.length + 1) rfl (fn_kt 129 fn129) rfl ?_
    simp only [List.map_cons, List.map_nil, int_ws, tree_ws]
    rw [show (Tree.mk a k ty op off l).cells = T37.enc (Tree.mk a k ty op off l).t37 from rfl, tell129, leaf35]
    simp only [Option.bind_some, openBool_v, t37_kind, t37_l, Tree.kind, Tree.l]
    rw [hasM]
    refine exB_split (fun h => ?_) fun h0 => ?_
    · rw [if_pos (by simpa using h)]; exact exB _ _
    rw [if_neg (by simpa using h0)]
    refine exB_split (fun h => ?_) fun h1 => ?_
    · rw [if_pos (by simpa using h)]; exact exB _ _
    rw [if_neg (by simpa using h1), hasL_any]
    simp only [splitB_dec]
    generalize hF : (fun vs0 S1 => _ : List SV → St → Option (Ex × List SV × St)) = F
    obtain ⟨j, hj⟩ := iter_anyX 0 (F := F) l (fun i => [.v (.bool false), .v (.int .i64 (i : Int))]) St0 (hasM kd) (fun i => [.v (.bool true), .v (.int .i64 (i : Int))])
      (fun i h => by
        have hx : l[i] ∈ l := List.getElem_mem h
        have hs : TB l[i] := TBl_mem hsz.2 _ hx
        rw [← hF]
        simp only [openHd_v, openBool_v, openInt_v, len_sl (P_kt 129) Tryz.underlying35, Option.bind_some]
        rw [if_pos (by omega), index_sl (P_kt 129) Tryz.underlying35 size37 Tree.cells Tree.cells_len l i h]
        simp only [Option.bind_some, openCp37']
        rw [show (T37.enc l[i].t37) = l[i].cells from rfl, ih l[i] hx St0 hs]
        simp only [Option.bind_some, openBool_v, splitB_if]
        rw [wrap_in (by omega) (by omega)]
        rfl)
      (by
        rw [← hF]
        simp only [openHd_v, openBool_v, openInt_v, len_sl (P_kt 129) Tryz.underlying35, Option.bind_some]
        rw [if_neg (by omega)]) (M := l.length + 1) (by omega)
    have hj : iter F (l.length + 1) [.v (.bool false), .v (.int .i64 0)] St0 = _ := hj
    rw [hj]
    cases l.any (hasM kd) with
    | true => exact exB _ _
    | false => exact exB _ _

def w64 (a : Int) : Int := IntKind.wrap .i64 a
theorem spec130 (o n : Int) (t : Tree) : ∀ (S : St), TB t → run kt (.func 130 [] []) [.agg t.cells, .v (.int .i64 o), .v (.int .i64 n)] S = some (.v (.bool (getsM bytesM w64 o n t)), S) := by
  induction t using Tree.ind with
  | h a k ty op off l ih =>
    intro S hsz
    rw [TB] at hsz
    have hlen := hsz.1
    refine closed_bool h130 (l.length + 1) rfl (fn_kt 130 fn130) rfl ?_
    simp only [List.map_cons, List.map_nil, int_ws, tree_ws]
    rw [show (Tree.mk a k ty op off l).cells = T37.enc (Tree.mk a k ty op off l).t37 from rfl, tell130, leaf35]
    simp only [Option.bind_some, openBool_v, t37_kind, t37_l, t37_off, t37_ty, Tree.kind, Tree.l, Tree.off, Tree.ty]
    rw [getsM]
    refine exB_split (fun h => ?_) fun h0 => ?_
    · rw [if_pos (by simpa using h)]; exact exB _ _
    rw [if_neg (by simpa using h0)]
    refine exB_bind (c := decide (k = 2 ∧ off < w64 (o + n) ∧ o < w64 (off + bytesM ty))) ?_ ?_
    · simp only [spec77, Option.bind_some, openInt_v]
      by_cases hk : k = 2
      · by_cases ho : off < w64 (o + n)
        · have ho' : decide (off < IntKind.wrap .i64 (o + n)) = true := decide_eq_true ho
          simp only [hk, ho', beq_self_eq_true, splitB_t, true_and, ho]
          rfl
        · have ho' : decide (off < IntKind.wrap .i64 (o + n)) = false := decide_eq_false ho
          simp only [hk, ho', beq_self_eq_true, splitB_t, splitB_f, true_and, ho, false_and, decide_false]
      · have hk' : (k == 2) = false := by simpa using hk
        simp only [hk', hk, splitB_f, false_and, decide_false]
    simp only [openHd_v, openBool_v]
    refine exB_split (fun h => ?_) fun h1 => ?_
    · rw [if_pos (of_decide_eq_true h)]; exact exB _ _
    rw [if_neg (of_decide_eq_false h1), getsL_any]
    simp only [splitB_dec]
    generalize hF : (fun vs0 S1 => _ : List SV → St → Option (Ex × List SV × St)) = F
    obtain ⟨j, hj⟩ := iter_anyX 0 (F := F) l (fun i => [.v (.bool false), .v (.int .i64 (i : Int))]) St0 (getsM bytesM w64 o n) (fun i => [.v (.bool true), .v (.int .i64 (i : Int))])
      (fun i h => by
        have hx : l[i] ∈ l := List.getElem_mem h
        have hs : TB l[i] := TBl_mem hsz.2 _ hx
        rw [← hF]
        simp only [openHd_v, openBool_v, openInt_v, len_sl (P_kt 130) Tryz.underlying35, Option.bind_some]
        rw [if_pos (by omega), index_sl (P_kt 130) Tryz.underlying35 size37 Tree.cells Tree.cells_len l i h]
        simp only [Option.bind_some, openCp37']
        rw [show (T37.enc l[i].t37) = l[i].cells from rfl, ih l[i] hx St0 hs]
        simp only [Option.bind_some, openBool_v, splitB_if]
        rw [wrap_in (by omega) (by omega)]
        rfl)
      (by
        rw [← hF]
        simp only [openHd_v, openBool_v, openInt_v, len_sl (P_kt 130) Tryz.underlying35, Option.bind_some]
        rw [if_neg (by omega)]) (M := l.length + 1) (by omega)
    have hj : iter F (l.length + 1) [.v (.bool false), .v (.int .i64 0)] St0 = _ := hj
    rw [hj]
    cases l.any (getsM bytesM w64 o n) with
    | true => exact exB _ _
    | false => exact exB _ _
end Go.Sv
end
section
namespace Go.Sv
open Go Go.Proofs Go.Proofs.YtkflapebfmcmaaaGreat
set_option linter.all false
set_option maxRecDepth 100000

theorem accL_frame {α : Type} {f : α → List SV} {sz lo : Nat} {l : List α} {y : SV} {S S' : St} (h : AccL f sz lo l y S) (hf : S'.floor = S.floor) (hn : S.next ≤ S'.next) (hg : ∀ c, c < S.next → S.get c = .own sz (l.length * sz) → S'.get c = S.get c) : AccL f sz lo l y S' := by
  obtain ⟨h0, h1, h⟩ := h
  refine ⟨by omega, by omega, ?_⟩
  rcases h with h | ⟨b, e, g, b1, b2, b3⟩
  · exact .inl h
  · exact .inr ⟨b, e, by rw [hg b b2 g, g], b1, by omega, by omega⟩

def etyM (k ty op off : Int) (ts : List Int) : Int := exprTyM ts ⟨k, ty, op, off, nbs ts.length⟩
/-- A closed call sees of its arguments what they say without the state. -/
theorem closed_congr {f : FuncId} {args args' : List SV} (hp : kt.prim f = none) (hm : kt.mode f = 3) (h : args.map (fun x => weak (shut x)) = args'.map fun x => weak (shut x)) (S : St) : run kt (.func f [] []) args S = run kt (.func f [] []) args' S := by
  have hl : ∀ n, lvl kt n (.func f [] []) args S = lvl kt n (.func f [] []) args' S := by
    intro n
    cases n with
    | zero => rfl
    | succ n =>
      simp only [lvl, hp, hm, List.nil_append, List.append_nil, h, show ¬ (3 : Nat) = 0 by decide, if_false, if_true]
  cases h1 : run kt (.func f [] []) args' S with
  | some r => exact run_iff.2 (by obtain ⟨n, hn⟩ := run_iff.1 h1; exact ⟨n, by rw [hl]; exact hn⟩)
  | none =>
    cases h2 : run kt (.func f [] []) args S with
    | none => rfl
    | some r =>
      have : run kt (.func f [] []) args' S = some r := run_iff.2 (by obtain ⟨n, hn⟩ := run_iff.1 h2; exact ⟨n, by rw [← hl]; exact hn⟩)
      rw [h1] at this; cases this
theorem bytes131 : bytes? (kt.at 131) 3 = some 8 := by kernel_rfl
theorem zero131 : zero? (kt.at 131) 3 = some [.v (.int .i64 0)] := by kernel_rfl
theorem bytes131a : bytes? (kt.at 131) 28 = some 32 := by kernel_rfl
theorem zero131a : ∃ z, zero? (kt.at 131) 28 = some z ∧ z.length = 6 := zlenU (by kernel_rfl)
theorem nbs_succ (n : Nat) : nbs (n + 1) = nbs n ++ [nbAtom n] := by simp [nbs, List.range_succ]
theorem nbs_len (n : Nat) : (nbs n).length = n := by simp [nbs]
theorem nums_is (l : List Int) : nums l = sl (ic .i64) l := rfl

theorem typRs_map (aty : Atom → Int) (ety : Int → Int → Int → Int → List Int → Int) : ∀ l : List Tree, typRs aty ety l = if l.any (fun t => typR aty ety t false == 0) = true then none else some (l.map fun t => typR aty ety t false)
  | [] => rfl
  | t :: r => by
    rw [typRs, typRs_map aty ety r, List.any_cons]
    by_cases h : typR aty ety t false = 0
    · simp [h]
    · rw [if_neg h]
      have : (typR aty ety t false == 0) = false := by simpa using h
      rw [this, Bool.false_or]
      split <;> rfl

set_option maxHeartbeats 1000000 in
theorem spec131 (tmps : List Int) (t : Tree) : ∀ (w : Bool) (S : St), TB t → run kt (.func 131 [] []) [nums tmps, .agg t.cells, .v (.bool w)] S = some (.v (.int .i64 (typR (atomTy tmps) etyM t w)), S) := by
  induction t using Tree.ind with
  | h a k ty op off l ih =>
    intro w S hsz
    rw [TB] at hsz
    have hlen := hsz.1
    refine closed_int h131 2000000 rfl (fn_kt 131 fn131) rfl ?_
    simp only [List.map_cons, List.map_nil, tree_ws, nums_ws, bool_ws]
    have e0 := tell131 2000000 tmps.length (tmps.flatMap (ic .i64)) (Tree.mk a k ty op off l).t37 w
    rw [show SV.sl none tmps.length (tmps.flatMap (ic .i64)) = nums tmps from rfl] at e0
    rw [show (Tree.mk a k ty op off l).cells = T37.enc (Tree.mk a k ty op off l).t37 from rfl, e0, leaf35]
    clear e0
    simp only [Option.bind_some, openBool_v, t37_eq]
    simp only [Tree.kind, Tree.l, Tree.off, Tree.ty, Tree.op, Tree.a]
    rw [typR]
    refine exI_split (fun h => ?_) fun h0 => ?_
    · rw [if_pos (show k = 0 by simpa using h)]
      refine exI_bind (c := (ty != 0) || ((op != 0) || ((off != 0) || decide (l ≠ [])))) ?_ ?_
      · rw [len_sl (P_kt 131) Tryz.underlying35]
        simp only [Option.bind_some, openInt_v, gor]
        have : decide ((l.length : Int) > 0) = decide (l ≠ []) := by
          cases l with
          | nil => rfl
          | cons x r => simp
        rw [this]
        try rw [gor, gor]
      simp only [openHd_v, openBool_v]
      refine exI_split (fun h => ?_) fun h1 => ?_
      · rw [if_pos (by simpa using h)]; exact exI _ _
      · rw [if_neg (by simpa using h1)]
        have := spec81 tmps a St0
        rw [show run kt (.func 81 [] []) [nums tmps, .agg [(.v (.int .i64 a.tmp)), (.v (.int .i64 a.ty)), (.v (.int .u32 a.c0)), (.v (.int .u32 a.c1)), (.v (.int .u32 a.c2)), (.v (.int .u32 a.c3))]] St0 = _ from this]
        simp only [Option.bind_some, openInt_v]
        exact exI _ _
    rw [if_neg (show ¬ k = 0 by simpa using h0)]
    have hza : ((a.tmp == (0 : Int)) && ((a.ty == (0 : Int)) && ((a.c0 == (0 : Int)) && ((a.c1 == (0 : Int)) && ((a.c2 == (0 : Int)) && ((a.c3 == (0 : Int)) && true)))))) = decide (a = zA) := by
      obtain ⟨a0, a1, a2, a3, a4, a5⟩ := a
      rw [Bool.eq_iff_iff]
      simp [zA]
    rw [hza]
    refine exI_split (fun h => ?_) fun h1 => ?_
    · rw [if_pos (by simpa using h)]; exact exI _ _
    rw [if_neg (by simpa using h1), gand]
    simp only [Option.bind_some, openHd_v, openBool_v]
    refine exI_split (fun h => ?_) fun h2 => ?_
    · rw [if_pos (by simpa using h)]; exact exI _ _
    rw [if_neg (by simpa using h2)]
    have hs55 : size? (kt.at 131) 55 = some 5 := sz55 (P_kt 131)
    rw [store_box (S := St0) hs55 (by decide) (by decide) rfl rfl]
    rw [next0]
    obtain ⟨z, hz, hzl⟩ := zero131a
    simp only [splitB_dec]
    generalize hF : (fun vs0 S1 => _ : List SV → St → Option (Ex × List SV × St)) = F
    -- behind i elements
    have I0 : ∀ z o, (boxed St0 z o).floor = 0 ∧ 1 ≤ (boxed St0 z o).next := fun z o => ⟨rfl, by rw [boxed_next]; decide⟩
    rw [typRs_map]
    have main := iter_invR 0 (F := F) l.length
      (fun i vs S => S.floor = 0 ∧ (l.take i).any (fun t => typR (atomTy tmps) etyM t false == 0) = false ∧ ∃ y yL, vs = [.v (.int .i64 0), y, .v (.int .i64 (i : Int))] ∧ AccL (ic .i64) 1 1 ((l.take i).map fun t => typR (atomTy tmps) etyM t false) y S ∧ S.get 0 = .cells [.v (.int .i64 k), .v (.int .i64 ty), .v (.int .i64 op), .v (.int .i64 off), yL] ∧ AccL ac 6 1 (nbs i) yL S)
      (fun o S => l.any (fun t => typR (atomTy tmps) etyM t false == 0) = true ∧ ∃ y i, o = [.v (.int .i64 0), y, .v (.int .i64 i)])
      (fun i hi vs S hI => by
        obtain ⟨hf, hany, y, yL, rfl, hy, hg, hyL⟩ := hI
        have hx : l[i] ∈ l := List.getElem_mem hi
        have hs := TBl_mem hsz.2 _ hx
        rw [← hF]
        simp only [openHd_v, openInt_v, len_sl (P_kt 131) Tryz.underlying35, Option.bind_some]
        rw [if_pos (by omega), index_sl (P_kt 131) Tryz.underlying35 size37 Tree.cells Tree.cells_len l i hi]
        simp only [Option.bind_some, openCp37']
        rw [show (T37.enc l[i].t37) = l[i].cells from rfl, ih l[i] hx false S hs]
        simp only [Option.bind_some, openInt_v]
        by_cases hz0 : typR (atomTy tmps) etyM l[i] false = 0
        · right
          rw [hz0]
          refine ⟨_, _, rfl, List.any_eq_true.2 ⟨l[i], hx, by simp [hz0]⟩, y, _, rfl⟩
        · left
          have hzb : (typR (atomTy tmps) etyM l[i] false == 0) = false := by simpa using hz0
          rw [hzb, splitB_f]
          obtain ⟨y1, S1, a1, a2, a3, a4, a5, a6⟩ := accL_append (ic_len .i64) (elem_of (P_kt 131) Tryz.underlying22) (sz3 (P_kt 131)) bytes131 zero131 (by decide) (by decide) rfl (by decide) hy (typR (atomTy tmps) etyM l[i] false) (by simp only [room, List.length_map, List.length_take]; omega)
          rw [show appendE (kt.at 131) 22 y (.sl (some S.next) 1 [(.v (.int .i64 (typR (atomTy tmps) etyM l[i] false)))]) (S.alloc (.own 1 1)) = some (y1, S1) from a1]
          simp only [Option.bind_some]
          have g1 : S1.get 0 = .cells [.v (.int .i64 k), .v (.int .i64 ty), .v (.int .i64 op), .v (.int .i64 off), yL] := by rw [a5 0 (by decide)]; exact hg
          have hyL1 : AccL ac 6 1 (nbs i) yL S1 := accL_frame hyL a3 (by omega) fun c hc hcg => a6 c hc (by intro m; rw [hcg]; simp)
          rw [ld1 (ag53 (P_kt 131)) (sz53 (P_kt 131)) g1]
          simp only [List.drop_succ_cons, List.drop_zero, List.head?_cons, Option.bind_some]
          obtain ⟨y2, S2, b1, b2, b3, b4, b5, b6⟩ := accL_append ac_len (elem_of (P_kt 131) Tryz.underlying53) (size28k (P_kt 131)) bytes131a hz (by decide) (by decide) hzl (by decide) hyL1 (nbAtom (i : Int)) (by rw [nbs_len]; simp only [room]; omega)
          rw [show appendE (kt.at 131) 53 yL (.sl (some S1.next) 1 [(.v (.int .i64 (i : Int))), (.v (.int .i64 (0 : Int))), (.v (.int .u32 (0 : Int))), (.v (.int .u32 (0 : Int))), (.v (.int .u32 (0 : Int))), (.v (.int .u32 (0 : Int)))]) (S1.alloc (.own 6 6)) = some (y2, S2) from b1]
          simp only [Option.bind_some]
          have g2 : S2.get 0 = .cells [.v (.int .i64 k), .v (.int .i64 ty), .v (.int .i64 op), .v (.int .i64 off), yL] := by rw [b5 0 (by decide)]; exact g1
          rw [st1 (sz53 (P_kt 131)) g2 (by rw [b3, a3, hf]; decide) (by simp) (accL_single b2)]
          rw [wrap_in (by omega) (by omega)]
          refine ⟨_, _, rfl, by show S2.floor = 0; rw [b3, a3, hf], ?_, y1, y2, rfl, ?_, ?_, ?_⟩
          · rw [List.take_succ_eq_append_getElem hi, List.any_append, hany]
            simp [hz0]
          · have : AccL (ic .i64) 1 1 ((l.take (i + 1)).map fun t => typR (atomTy tmps) etyM t false) y1 S1 := by
              rw [List.take_succ_eq_append_getElem hi, List.map_append]; exact a2
            have h2 : AccL (ic .i64) 1 1 ((l.take (i + 1)).map fun t => typR (atomTy tmps) etyM t false) y1 S2 := accL_frame this b3 (by omega) fun c hc hcg => b6 c hc (by intro m; rw [hcg]; simp)
            exact accL_keep h2 rfl (Nat.le_refl _) fun b hb _ => get_put _ _ _ _ (by omega)
          · simp [St.put, splice]
          · rw [nbs_succ]
            exact accL_keep b2 rfl (Nat.le_refl _) fun b hb _ => get_put _ _ _ _ (by omega))
      (fun vs S hI => by
        obtain ⟨hf, hany, y, yL, rfl, hy, hg, hyL⟩ := hI
        rw [← hF]
        simp only [openHd_v, openInt_v, len_sl (P_kt 131) Tryz.underlying35, Option.bind_some]
        rw [if_neg (by omega)])
      l.length 0 rfl [.v (.int .i64 0), .v (.slice none 0 0), .v (.int .i64 0)] (boxed St0 (.cells [(.v (.int .i64 (0 : Int))), (.v (.int .i64 (0 : Int))), (.v (.int .i64 (0 : Int))), (.v (.int .i64 (0 : Int))), (.v (.slice none 0 0))]) (.cells [(.v (.int .i64 k)), (.v (.int .i64 ty)), (.v (.int .i64 op)), (.v (.int .i64 off)), (.v (.slice none 0 0))])) 2000000
      ⟨rfl, by simp, .v (.slice none 0 0), .v (.slice none 0 0), rfl, accL0 _ _ _ (by rw [boxed_next]; exact Nat.zero_le _) (by rw [boxed_next]; decide), boxed_get1 _ _, accL0 _ _ _ (by rw [boxed_next]; exact Nat.zero_le _) (by rw [boxed_next]; decide)⟩ (by omega)
    rcases main with ⟨vs, S', h1, hf, hany, y, yL, rfl, hy, hg, hyL⟩ | ⟨vs, S', h1, hany, y, i, rfl⟩
    · rw [h1]
      rw [List.take_length] at hany hy
      rw [if_neg (by rw [hany]; decide)]
      simp only [Option.bind_some, openHd_v, openInt_v, exits_exit, if_true]
      have hld : loadE (kt.at 131) 55 (.ptr 0 0) S' = some (.agg [.v (.int .i64 k), .v (.int .i64 ty), .v (.int .i64 op), .v (.int .i64 off), yL]) := by
        simp [loadE, agg_st (P_kt 131) Tryz.underlying55, hs55, hg, objCells, takeVal]
      rw [hld]
      simp only [Option.bind_some]
      rw [show ∀ (K : cd55.α → Option (SV × St)), openAgg cd55 (.agg [.v (.int .i64 k), .v (.int .i64 ty), .v (.int .i64 op), .v (.int .i64 off), yL]) K = K (⟨k, ty, op, off, yL⟩ : T55) from fun K => rfl]
      have hr : ∀ S, run kt (.func 135 [] []) [y, .agg (T55.enc ⟨k, ty, op, off, yL⟩)] S = some (.v (.int .i64 (etyM k ty op off (l.map fun t => typR (atomTy tmps) etyM t false))), S) := by
        intro S
        have hw1 : weak (shut y) = nums (l.map fun t => typR (atomTy tmps) etyM t false) := rd_ws (cl_ic .i64) (accL_rd hy)
        have hw2 : weak (shut yL) = atoms (nbs l.length) := rd_ws cl_ac (accL_rd hyL)
        have hw3 : weak (shut (.agg (T55.enc ⟨k, ty, op, off, yL⟩))) = .agg (Expr.t55 ⟨k, ty, op, off, nbs l.length⟩).enc := by
          simp only [T55.enc, Expr.t55, shut, shutL, weak, weakL, weakV, hw2]
        have h135 := spec135 (l.map fun t => typR (atomTy tmps) etyM t false) ⟨k, ty, op, off, nbs l.length⟩ (by rw [nbs_len]; exact hlen) S
        rw [closed_congr (f := 135) (args' := [nums (l.map fun t => typR (atomTy tmps) etyM t false), .agg (Expr.t55 ⟨k, ty, op, off, nbs l.length⟩).enc]) rfl rfl (by simp only [List.map_cons, List.map_nil, hw1, hw3, nums_ws, expr_ws]) S, h135]
        simp only [etyM, List.length_map]
      rw [hr]
      simp only [Option.bind_some, openInt_v]
      exact exI _ _
    · rw [h1, if_pos hany]
      exact exI _ _
end Go.Sv
end
section
namespace Go.Sv
open Go Go.Proofs Go.Proofs.YtkflapebfmcmaaaGreat
set_option linter.all false
set_option maxRecDepth 100000

/-- A statement's trees are of a size. -/
def TBs (s : TStmt) : Prop := TB s.e ∧ ∀ t ∈ s.l, TB t
def distM (tmps : List Int) (s : TStmt) (t : Tree) : Bool := distR bytesM w64 (hasM 5 s.e) s.kind s.off (bytesM (headTy (fun t => typR (atomTy tmps) etyM t false) s)) t

theorem tstmt_e (s : TStmt) : [(SV.v (.int .i64 s.t59.e_A_Tmp)), (.v (.int .i64 s.t59.e_A_Ty)), (.v (.int .u32 s.t59.e_A_C0)), (.v (.int .u32 s.t59.e_A_C1)), (.v (.int .u32 s.t59.e_A_C2)), (.v (.int .u32 s.t59.e_A_C3)), (.v (.int .i64 s.t59.e_Kind)), (.v (.int .i64 s.t59.e_Ty)), (.v (.int .i64 s.t59.e_Op)), (.v (.int .i64 s.t59.e_Off)), s.t59.e_L] = s.e.cells := by
  rw [cells_eq]; rfl

theorem spec62 (tmps : List Int) (s : TStmt) (t : Tree) (hs : TBs s) (ht : TB t) (hp : s.kind = 3 → s.l ≠ []) (S : St) : run kt (.func 62 [] []) [nums tmps, .agg s.t59.enc, .agg t.cells] S = some (.v (.bool (distM tmps s t)), S) := by
  refine closed_bool h62 0 rfl (fn_kt 62 fn62) rfl ?_
  simp only [List.map_cons, List.map_nil, tree_ws, nums_ws, tstmt_ws]
  have e0 := tell62 0 tmps.length (tmps.flatMap (ic .i64)) s.t59 t.t37
  rw [show SV.sl none tmps.length (tmps.flatMap (ic .i64)) = nums tmps from rfl] at e0
  rw [show t.cells = T37.enc t.t37 from rfl, e0]
  clear e0
  rw [show T37.enc t.t37 = t.cells from rfl, tstmt_e]
  simp only [spec129 5 t _ ht, spec129 6 t _ ht, spec129 9 t _ ht, spec129 5 s.e _ hs.1, Option.bind_some, openBool_v, gor, gand]
  unfold distM distR
  simp only [openHd_v, openBool_v]
  rw [show s.t59.kind = s.kind from rfl]
  refine exB_split (fun h => ?_) fun h0 => ?_
  · rw [if_pos h]; exact exB _ _
  rw [if_neg (by rw [h0]; decide)]
  refine exB_split (fun h => ?_) fun h3 => ?_
  · have h3 : s.kind = 3 := by simpa using h
    rw [if_pos h3]
    cases hl : s.l with
    | nil => exact (hp h3 hl).elim
    | cons x r =>
      have ix : indexAddrE (kt.at 62) 35 s.t59.l (.v (.int .i64 0)) = some (.cp x.cells) := by
        have := index_sl (P_kt 62) Tryz.underlying35 size37 Tree.cells Tree.cells_len (x :: r) 0 (by simp) .i64
        have e : s.t59.l = sl Tree.cells (x :: r) := by rw [← hl]; rfl
        rw [e]
        exact this
      rw [ix]
      simp only [Option.bind_some, openCp37']
      rw [show T37.enc x.t37 = x.cells from rfl, spec131 tmps x false _ (hs.2 x (by simp [hl]))]
      simp only [Option.bind_some, openInt_v, spec77, spec130 _ _ t _ ht, openBool_v, headTy, hl]
      exact exB _ _
  rw [if_neg (by simpa using h3)]
  refine exB_split (fun h => ?_) fun h6 => ?_
  · rw [if_pos (by simpa using h)]; exact exB _ _
  rw [if_neg (by simpa using h6)]
  refine exB_split (fun h => ?_) fun h7 => ?_
  · rw [if_pos (by simpa using h)]; exact exB _ _
  rw [if_neg (by simpa using h7)]; exact exB _ _

/-! How often a temporary is used. -/
def cntA (l : List Atom) (t : Int) : Nat := (l.filter fun a => a.tmp == t).length
def usesM (b : Block) (t : Int) : Int := ((b.l.map fun s => cntA (s.e.l ++ s.l) t).sum : Int) + if b.next.tmp = t then 1 else 0
theorem cntA_le (l : List Atom) (t : Int) : cntA l t ≤ l.length := List.length_filter_le _ _
theorem cntA_append (l m : List Atom) (t : Int) : cntA (l ++ m) t = cntA l t + cntA m t := by simp [cntA]

theorem bytes63 : bytes? (kt.at 63) 28 = some 32 := by kernel_rfl
theorem zero63 : ∃ z, zero? (kt.at 63) 28 = some z ∧ z.length = 6 := zlenU (by kernel_rfl)

theorem sum_cast (l : List Nat) : ((l.sum : Nat) : Int) = (l.map fun (x : Nat) => (x : Int)).sum := by
  induction l with
  | nil => rfl
  | cons x r ih => simp [ih]

set_option maxHeartbeats 1000000 in
theorem spec63 (b : Block) (t : Int) (hL : b.l.length ≤ 1000000) (hB : ∀ s ∈ b.l, s.l.length ≤ 190000 ∧ s.e.l.length ≤ 190000) (S : St) : run kt (.func 63 [] []) [.agg b.t31.enc, .v (.int .i64 t)] S = some (.v (.int .i64 (usesM b t)), S) := by
  refine closed_int h63 2000000 rfl (fn_kt 63 fn63) rfl ?_
  simp only [List.map_cons, List.map_nil, block_ws, int_ws]
  rw [tell63]
  obtain ⟨z, hz, hzl⟩ := zero63
  have he : elem? (kt.at 63) 53 = some 28 := elem_of (P_kt 63) Tryz.underlying53
  have hs := size28k (P_kt 63)
  simp only [splitB_dec]
  rw [show b.t31.l = stmts b.l from rfl]
  generalize hF : (fun vs0 S1 => _ : List SV → St → Option (Ex × List SV × St)) = F
  have hsum : ∀ i, ((b.l.take i).map fun s => cntA (s.e.l ++ s.l) t).sum ≤ i * 380000 := by
    intro i
    have : ∀ l : List Stmt, (∀ s ∈ l, s.l.length ≤ 190000 ∧ s.e.l.length ≤ 190000) → (l.map fun s => cntA (s.e.l ++ s.l) t).sum ≤ l.length * 380000 := by
      intro l
      induction l with
      | nil => intro _; simp
      | cons s r ih =>
        intro h
        have h1 := ih fun s hs => h s (by simp [hs])
        have h2 := h s (by simp)
        have h3 := cntA_le (s.e.l ++ s.l) t
        rw [List.length_append] at h3
        simp only [List.map_cons, List.sum_cons, List.length_cons]
        omega
    have h1 := this (b.l.take i) fun s hs => hB s (List.mem_of_mem_take hs)
    have h2 : (b.l.take i).length ≤ i := by rw [List.length_take]; exact Nat.min_le_left _ _
    exact Nat.le_trans h1 (Nat.mul_le_mul_right _ h2)
  obtain ⟨vs, S', h1, hf, rfl⟩ := iter_inv 0 (F := F) b.l.length
    (fun i vs S => S.floor = 0 ∧ vs = [.v (.int .i64 ((((b.l.take i).map fun s => cntA (s.e.l ++ s.l) t).sum : Nat) : Int)), .v (.int .i64 (i : Int))])
    (fun i hi vs S hI => by
      obtain ⟨hf, rfl⟩ := hI
      have hb := hB b.l[i] (List.getElem_mem hi)
      have hsi := hsum i
      generalize hsx : b.l[i] = s at hb
      rw [← hF]
      simp only [openHd_v, openInt_v, len_stmts (P_kt 63), Option.bind_some]
      rw [if_pos (by omega), index_stmts (P_kt 63) .i64 b.l i hi, hsx]
      simp only [Option.bind_some, openCp57']
      obtain ⟨y1, S1, a1, o1, f1, n1⟩ := own_append ac_len he hs bytes63 hz (by decide) (by decide) hzl (by decide) (own0 ac 6 (S := S) (by omega)) s.e.l (by simp only [room, List.length_nil]; omega)
      rw [List.nil_append] at o1
      rw [show appendE (kt.at 63) 53 .emp s.t57.e_L S = some (y1, S1) from a1]
      simp only [Option.bind_some]
      obtain ⟨y2, S2, a2, o2, f2, n2⟩ := own_append ac_len he hs bytes63 hz (by decide) (by decide) hzl (by decide) o1 s.l (by simp only [room]; omega)
      rw [show appendE (kt.at 63) 53 y1 s.t57.l S1 = some (y2, S2) from a2]
      simp only [Option.bind_some]
      generalize hG : (fun vs0 S1 => _ : List SV → St → Option (Ex × List SV × St)) = G
      generalize hacc : ((b.l.take i).map fun s => cntA (s.e.l ++ s.l) t).sum = acc at hsi
      have hll : (s.e.l ++ s.l).length ≤ 380000 := by rw [List.length_append]; omega
      obtain ⟨vs, S', g1, rfl, rfl⟩ := iter_inv 2 (F := G) (s.e.l ++ s.l).length
        (fun j vs S' => S' = S2 ∧ vs = [.v (.int .i64 ((acc : Int) + (cntA ((s.e.l ++ s.l).take j) t : Int))), .v (.int .i64 (j : Int))])
        (fun j hj vs S' hI => by
          obtain ⟨rfl, rfl⟩ := hI
          have hc := cntA_le ((s.e.l ++ s.l).take j) t
          have hc2 : ((s.e.l ++ s.l).take j).length ≤ j := by simp; omega
          rw [← hG]
          simp only [openHd_v, openInt_v, own_len (P_kt 63) Tryz.underlying53 o2, Option.bind_some]
          rw [if_pos (by omega), own_index (P_kt 63) Tryz.underlying53 size28' ac_len o2 j hj .i64]
          simp only [Option.bind_some, show openCp (Z := Ex × List SV × St) cd28 (.cp (ac (s.e.l ++ s.l)[j])) = openCp cd28 (.cp (s.e.l ++ s.l)[j].t28.enc) from rfl, openCp28']
          rw [wrap_in (a := (j : Int) + 1) (by omega) (by omega), wrap_in (a := (acc : Int) + _ + 1) (by omega) (by omega)]
          refine ⟨_, _, ?_, rfl, rfl⟩
          rw [List.take_succ_eq_append_getElem hj, cntA_append]
          have : cntA [(s.e.l ++ s.l)[j]] t = if (s.e.l ++ s.l)[j].tmp = t then 1 else 0 := by
            unfold cntA
            by_cases h : (s.e.l ++ s.l)[j].tmp = t <;> simp [List.filter_cons, h]
          rw [this]
          by_cases h : (s.e.l ++ s.l)[j].tmp = t
          · have h' : ((s.e.l ++ s.l)[j].t28.tmp == t) = true := by simpa [Atom.t28] using h
            rw [h', splitB_t, if_pos h]
            simp [Int.add_assoc]
          · have h' : ((s.e.l ++ s.l)[j].t28.tmp == t) = false := by simpa [Atom.t28] using h
            rw [h', splitB_f, if_neg h]
            simp)
        (fun vs S' hI => by
          obtain ⟨rfl, rfl⟩ := hI
          rw [← hG]
          simp only [openHd_v, openInt_v, own_len (P_kt 63) Tryz.underlying53 o2, Option.bind_some]
          rw [if_neg (by omega)])
        (s.e.l ++ s.l).length 0 rfl [.v (.int .i64 (acc : Int)), .v (.int .i64 0)] S2 2000000 ⟨rfl, by simp [cntA]⟩ (by omega)
      rw [g1]
      simp only [Option.bind_some, openHd_v, openInt_v, exits_exit, if_true]
      rw [wrap_in (by omega) (by omega)]
      refine ⟨_, _, rfl, by rw [f2, f1, hf], ?_⟩
      rw [List.take_length, List.take_succ_eq_append_getElem hi, hsx, List.map_append, List.sum_append, hacc]
      simp)
    (fun vs S hI => by
      obtain ⟨hf, rfl⟩ := hI
      rw [← hF]
      simp only [openHd_v, openInt_v, len_stmts (P_kt 63), Option.bind_some]
      rw [if_neg (by omega)])
    b.l.length 0 rfl [.v (.int .i64 0), .v (.int .i64 0)] St0 2000000 ⟨rfl, by simp⟩ (by omega)
  rw [h1]
  have hsi := hsum b.l.length
  rw [List.take_length] at hsi ⊢
  simp only [Option.bind_some, openHd_v, openInt_v, exits_exit, if_true]
  unfold usesM
  by_cases h : b.next.tmp = t
  · have h' : (b.t31.next_Tmp == t) = true := by simpa [Block.t31] using h
    rw [h', splitB_t, if_pos h, wrap_in (by omega) (by omega)]
    exact exI _ _
  · have h' : (b.t31.next_Tmp == t) = false := by simpa [Block.t31] using h
    rw [h', splitB_f, if_neg h]
    exact exI_eq (by simp)
end Go.Sv
end
