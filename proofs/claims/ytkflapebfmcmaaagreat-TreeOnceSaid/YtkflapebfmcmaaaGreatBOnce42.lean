/- Parts of the proofs of this seat's laws. -/
import Derived.Test.YtkflapebfmcmaaaGreatBOnce41
import Derived.Test.YtkflapebfmcmaaaGreatBOnce37
section
namespace Go.Sv
open Go Go.Proofs Go.Proofs.YtkflapebfmcmaaaGreat
set_option linter.all false
set_option maxRecDepth 100000

/-! The program's trees (tree), function by function. -/
mutual
/-- Every node's list is of a size, every atom as it is in memory. -/
def TG : Tree → Prop
  | .mk a _ _ _ _ l => l.length ≤ 1000000 ∧ a.ok ∧ TGl l
def TGl : List Tree → Prop
  | [] => True
  | t :: r => TG t ∧ TGl r
end
theorem TGl_mem : ∀ {l : List Tree}, TGl l → ∀ t ∈ l, TG t
  | x :: r, h, t, ht => by
    rw [TGl] at h
    rcases List.mem_cons.1 ht with rfl | ht
    · exact h.1
    · exact TGl_mem h.2 t ht
theorem TGl_of : ∀ {l : List Tree}, (∀ t ∈ l, TG t) → TGl l
  | [], _ => by rw [TGl]; trivial
  | t :: r, h => by rw [TGl]; exact ⟨h t (by simp), TGl_of fun x hx => h x (by simp [hx])⟩
theorem TG.tb {t : Tree} : TG t → TB t := by
  induction t using Tree.ind with
  | h a k ty op off l ih =>
    intro h
    rw [TG] at h
    rw [TB]
    exact ⟨h.1, TBl_of fun t ht => ih t ht (TGl_mem h.2.2 t ht)⟩

theorem bytes149 : bytes? (kt.at 149) 28 = some 32 := by kernel_rfl
theorem zero149 : ∃ z, zero? (kt.at 149) 28 = some z ∧ z.length = 6 := zlenU (by kernel_rfl)
def nbf (f : Int) (n : Nat) : List Atom := (List.range n).map fun (i : Nat) => nbAtom (f + (i : Int))
theorem nbf_succ (f : Int) (n : Nat) : nbf f (n + 1) = nbf f n ++ [nbAtom (f + n)] := by simp [nbf, List.range_succ]
theorem nbf_len (f : Int) (n : Nat) : (nbf f n).length = n := by simp [nbf]
theorem nbf_zero (n : Nat) : nbf 0 n = nbs n := by simp [nbf, nbs]

theorem spec149 (f : Int) (n : Nat) (hf0 : 0 ≤ f) (hf1 : f ≤ 1000000) (hn : n ≤ 1000000) (S : St) : run kt (.func 149 [] []) [.v (.int .i64 f), .v (.int .i64 (n : Int))] S = some (atoms (nbf f n), S) := by
  suffices ∃ y S2, cBody (kt.at 149) h149 (run kt) 2000000 (compF Tryz.f149) [.v (.int .i64 f), .v (.int .i64 (n : Int))] St0 = some (y, S2) ∧ Rd' ac (nbf f n) y by
    obtain ⟨y, S2, h1, h2⟩ := this
    have := go_closed ks_kt (f := 149) (fst := []) (cap := []) (args := [.v (.int .i64 f), .v (.int .i64 (n : Int))]) (S := S) h149 2000000 rfl (fn_kt 149 fn149) rfl (z := (y, S2)) (by
      simp only [List.nil_append, List.append_nil, List.map_cons, List.map_nil, int_ws]
      exact h1)
    rw [rd_erase cl_ac h2 S2] at this
    exact this
  rw [tell149]
  obtain ⟨z, hz, hzl⟩ := zero149
  simp only [splitB_dec]
  generalize hF : (fun vs0 S1 => _ : List SV → St → Option (Ex × List SV × St)) = F
  obtain ⟨vs, S', h1, hf, y, rfl, hy⟩ := iter_inv 0 (F := F) n
    (fun i vs S => S.floor = 0 ∧ ∃ y, vs = [y, .v (.int .i64 (i : Int))] ∧ AccL ac 6 0 (nbf f i) y S)
    (fun i hi vs S hI => by
      obtain ⟨hfl, y, rfl, hy⟩ := hI
      rw [← hF]
      simp only [openHd_v, openInt_v]
      rw [if_pos (by omega), wrap_in (by omega) (by omega), wrap_in (by omega) (by omega)]
      obtain ⟨y', S', a1, a2, a3, a4, a5, a6⟩ := accL_append ac_len (elem_of (P_kt 149) Tryz.underlying53) (size28k (P_kt 149)) bytes149 hz (by decide) (by decide) hzl (by decide) hy (nbAtom (f + i)) (by rw [nbf_len]; simp only [room]; omega)
      rw [show appendE (kt.at 149) 53 y (.sl (some S.next) 1 [(.v (.int .i64 (f + (i : Int)))), (.v (.int .i64 (0 : Int))), (.v (.int .u32 (0 : Int))), (.v (.int .u32 (0 : Int))), (.v (.int .u32 (0 : Int))), (.v (.int .u32 (0 : Int)))]) (S.alloc (.own 6 6)) = some (y', S') from a1]
      exact ⟨_, _, rfl, by rw [a3, hfl], y', rfl, by rw [nbf_succ]; exact a2⟩)
    (fun vs S hI => by
      obtain ⟨hfl, y, rfl, hy⟩ := hI
      rw [← hF]
      simp only [openHd_v, openInt_v]
      rw [if_neg (by omega)])
    n 0 rfl [.v (.slice none 0 0), .v (.int .i64 0)] St0 2000000 ⟨rfl, _, rfl, accL0 _ _ _ (Nat.zero_le _) (Nat.zero_le _)⟩ (by omega)
  rw [h1]
  simp only [Option.bind_some, openHd_v, openInt_v, exits_exit, if_true]
  exact ⟨y, S', rfl, accL_rd hy⟩

theorem spec132 (t : Tree) {l : List Atom} {y : SV} (hy : weak (shut y) = atoms l) (S : St) : run kt (.func 132 [] []) [.agg t.cells, y] S = some (.agg (Expr.t55 ⟨t.kind, t.ty, t.op, t.off, l⟩).enc, S) := by
  have := go_closed ks_kt (f := 132) (fst := []) (cap := []) (args := [.agg t.cells, y]) (S := S) h132 0 rfl (fn_kt 132 fn132) rfl (by
    simp only [List.nil_append, List.append_nil, List.map_cons, List.map_nil, tree_ws, hy]
    exact tell132 0 t.t37 l.length (l.flatMap ac))
  rw [this]
  simp only [t37_eq, Expr.t55, T55.enc, erase, eraseL, weakV, cl_flat cl_ac]
  rfl

theorem bytes91 : bytes? (kt.at 91) 3 = some 8 := by kernel_rfl
theorem zero91 : zero? (kt.at 91) 3 = some [.v (.int .i64 0)] := by kernel_rfl
def z37 : List SV := [(.v (.int .i64 (0 : Int))), (.v (.int .i64 (0 : Int))), (.v (.int .u32 (0 : Int))), (.v (.int .u32 (0 : Int))), (.v (.int .u32 (0 : Int))), (.v (.int .u32 (0 : Int))), (.v (.int .i64 (0 : Int))), (.v (.int .i64 (0 : Int))), (.v (.int .i64 (0 : Int))), (.v (.int .i64 (0 : Int))), (.v (.slice none 0 0))]
theorem spec91 (l : List Tree) (hl : l.length ≤ 1000000) (g : FuncId) (c : List SV) (f : Tree → Int) (S : St) (hf : ∀ t ∈ l, ∀ S, run kt (.func g [] c) [.agg t.cells] S = some (.v (.int .i64 (f t)), S)) : run kt (.func 91 [] []) [sl Tree.cells l, .func g [] c] S = some (nums (l.map f), S) := by
  suffices ∃ y S2, cBody (kt.at 91) h91 (run kt) 2000000 (compF Tryz.f91) [sl Tree.cells l, .func g [] c] (quiet S) = some (y, S2) ∧ Rd' (ic .i64) (l.map f) y by
    obtain ⟨y, S2, h1, h2⟩ := this
    have := go_pure ks_kt (f := 91) (fst := []) (cap := []) (args := [sl Tree.cells l, .func g [] c]) (S := S) h91 2000000 rfl (fn_kt 91 fn91) rfl (z := (y, S2)) (by
      simp only [List.nil_append, List.append_nil, List.map_cons, List.map_nil, (sl_shut cl_tree l).2, weak_func]
      exact h1)
    rw [rd_erase (cl_ic .i64) h2 S2] at this
    exact this
  have e0 := tell91 2000000 l.length (l.flatMap Tree.cells) g [] c (quiet S)
  rw [show SV.sl none l.length (l.flatMap Tree.cells) = sl Tree.cells l from rfl] at e0
  rw [e0]
  clear e0
  simp only [splitB_dec]
  generalize hF : (fun vs0 S1 => _ : List SV → St → Option (Ex × List SV × St)) = F
  obtain ⟨vs, S', h1, hfl, y, rfl, hy⟩ := iter_inv 0 (F := F) l.length
    (fun i vs S' => S'.floor ≤ S'.next ∧ ∃ y, vs = [y, .v (.int .i64 (i : Int))] ∧ AccL (ic .i64) 1 0 ((l.take i).map f) y S')
    (fun i hi vs S' hI => by
      obtain ⟨hfl, y, rfl, hy⟩ := hI
      rw [← hF]
      simp only [openHd_v, openInt_v]
      rw [if_pos (by omega), index_sl (P_kt 91) Tryz.underlying35 size37 Tree.cells Tree.cells_len l i hi]
      simp only [Option.bind_some, openCp37']
      rw [show T37.enc l[i].t37 = l[i].cells from rfl]
      rw [store_box (sz37' (P_kt 91)) (by decide) hfl rfl (Tree.cells_len _), load_box (agg_st (P_kt 91) Tryz.underlying37) (sz37' (P_kt 91)) (Tree.cells_len _)]
      simp only [Option.bind_some, openAgg37']
      rw [show T37.enc l[i].t37 = l[i].cells from rfl, hf l[i] (List.getElem_mem hi)]
      simp only [Option.bind_some, openInt_v]
      rw [wrap_in (by omega) (by omega)]
      have hy2 := accL_box hy (.cells z37) (.cells l[i].cells)
      obtain ⟨y', S'', a1, a2, a3, a4, a5, a6⟩ := accL_append (ic_len .i64) (elem_of (P_kt 91) Tryz.underlying22) (sz3 (P_kt 91)) bytes91 zero91 (by decide) (by decide) rfl (by decide) hy2 (f l[i]) (by simp only [room, List.length_map, List.length_take]; omega)
      rw [show appendE (kt.at 91) 22 y (.sl (some (boxed S' (.cells [(.v (.int .i64 (0 : Int))), (.v (.int .i64 (0 : Int))), (.v (.int .u32 (0 : Int))), (.v (.int .u32 (0 : Int))), (.v (.int .u32 (0 : Int))), (.v (.int .u32 (0 : Int))), (.v (.int .i64 (0 : Int))), (.v (.int .i64 (0 : Int))), (.v (.int .i64 (0 : Int))), (.v (.int .i64 (0 : Int))), (.v (.slice none 0 0))]) (.cells l[i].cells)).next) 1 [(.v (.int .i64 (f l[i])))]) ((boxed S' (.cells [(.v (.int .i64 (0 : Int))), (.v (.int .i64 (0 : Int))), (.v (.int .u32 (0 : Int))), (.v (.int .u32 (0 : Int))), (.v (.int .u32 (0 : Int))), (.v (.int .u32 (0 : Int))), (.v (.int .i64 (0 : Int))), (.v (.int .i64 (0 : Int))), (.v (.int .i64 (0 : Int))), (.v (.int .i64 (0 : Int))), (.v (.slice none 0 0))]) (.cells l[i].cells)).alloc (.own 1 1)) = some (y', S'') from a1]
      refine ⟨_, _, rfl, ?_, y', rfl, ?_⟩
      · have := a2.1; exact this
      · rw [List.take_succ_eq_append_getElem hi, List.map_append]; exact a2)
    (fun vs S hI => by
      obtain ⟨hfl, y, rfl, hy⟩ := hI
      rw [← hF]
      simp only [openHd_v, openInt_v]
      rw [if_neg (by omega)])
    l.length 0 rfl [.v (.slice none 0 0), .v (.int .i64 0)] (quiet S) 2000000 ⟨Nat.le_refl _, _, rfl, by rw [List.take_zero]; exact accL0 _ _ _ (Nat.le_refl _) (Nat.zero_le _)⟩ (by omega)
  rw [h1]
  rw [List.take_length] at hy
  simp only [Option.bind_some, openHd_v, openInt_v, exits_exit, if_true]
  exact ⟨y, S', rfl, accL_rd hy⟩

theorem typPs_map (aty : Atom → Int) (ety : Int → Int → Int → Int → List Int → Int) : ∀ l : List Tree, typPs aty ety l = l.map (typP aty ety)
  | [] => rfl
  | t :: r => by rw [typPs, typPs_map aty ety r]; rfl

theorem spec103 (tmps : List Int) (t : Tree) : ∀ (S : St), TG t → run kt (.func 103 [] []) [nums tmps, .agg t.cells] S = some (.v (.int .i64 (typP (atomTy tmps) etyM t)), S) := by
  induction t using Tree.ind with
  | h a k ty op off l ih =>
    intro S hg
    rw [TG] at hg
    obtain ⟨hl, ha, hgl⟩ := hg
    refine closed_int h103 0 rfl (fn_kt 103 fn103) rfl ?_
    simp only [List.map_cons, List.map_nil, tree_ws, nums_ws]
    have e0 := tell103 0 tmps.length (tmps.flatMap (ic .i64)) (Tree.mk a k ty op off l).t37
    rw [show SV.sl none tmps.length (tmps.flatMap (ic .i64)) = nums tmps from rfl] at e0
    rw [show (Tree.mk a k ty op off l).cells = T37.enc (Tree.mk a k ty op off l).t37 from rfl, e0]
    clear e0
    rw [typP]
    refine exI_split (fun h => ?_) fun h0 => ?_
    · have hk : k = 0 := by rw [t37_kind] at h; simpa [Tree.kind] using h
      rw [if_pos hk]
      have : run kt (.func 119 [] []) [nums tmps, .agg [(.v (.int .i64 (Tree.mk a k ty op off l).t37.a_Tmp)), (.v (.int .i64 (Tree.mk a k ty op off l).t37.a_Ty)), (.v (.int .u32 (Tree.mk a k ty op off l).t37.a_C0)), (.v (.int .u32 (Tree.mk a k ty op off l).t37.a_C1)), (.v (.int .u32 (Tree.mk a k ty op off l).t37.a_C2)), (.v (.int .u32 (Tree.mk a k ty op off l).t37.a_C3))]] St0 = some (.v (.int .i64 (atomTy tmps a)), St0) := by
        rw [t37_eq]; exact spec119 tmps a ha St0
      rw [this]
      simp only [Option.bind_some, openInt_v]
      exact exI _ _
    · have hk : ¬ k = 0 := by rw [t37_kind] at h0; simpa [Tree.kind] using h0
      rw [if_neg hk]
      have h156 : ∀ t ∈ l, ∀ S, run kt (.func 156 [] [.cp [nums tmps]]) [.agg t.cells] S = some (.v (.int .i64 (typP (atomTy tmps) etyM t)), S) := by
        intro t ht S
        have hcp : weak (shut (.cp [nums tmps])) = .cp [nums tmps] := by simp [shut, shutL, weak, weakL, (nums_shut tmps).1, (nums_shut tmps).2]
        exact go_closed ks_kt (f := 156) (fst := []) (cap := [.cp [nums tmps]]) (args := [.agg t.cells]) (S := S) h156 0 rfl (fn_kt 156 fn156) rfl (z := (.v (.int .i64 (typP (atomTy tmps) etyM t)), St0)) (by
          simp only [List.nil_append, List.cons_append, List.map_cons, List.map_nil, tree_ws, hcp]
          have e := tell156 0 t.t37 tmps.length (tmps.flatMap (ic .i64))
          rw [show SV.sl none tmps.length (tmps.flatMap (ic .i64)) = nums tmps from rfl] at e
          refine e.trans ?_
          rw [show T37.enc t.t37 = t.cells from rfl, ih t ht St0 (TGl_mem hgl t ht)]
          rfl)
      rw [t37_l, show (Tree.mk a k ty op off l).l = l from rfl, spec91 l hl 156 [.cp [nums tmps]] _ St0 h156]
      simp only [Option.bind_some, len_nums (P_kt 103), openInt_v, List.length_map]
      rw [spec149 0 l.length (by decide) (by decide) hl]
      simp only [Option.bind_some]
      rw [show T37.enc (Tree.mk a k ty op off l).t37 = (Tree.mk a k ty op off l).cells from rfl, spec132 (Tree.mk a k ty op off l) (atoms_ws _)]
      simp only [Option.bind_some]
      rw [show ∀ (e : Expr) (K : cd55.α → Option (SV × St)), openAgg cd55 (.agg e.t55.enc) K = K e.t55 from fun e K => rfl]
      have h157 := spec157 (l.map (typP (atomTy tmps) etyM)) ⟨k, ty, op, off, nbf 0 l.length⟩ (by
        intro a ha
        obtain ⟨i, _, rfl⟩ := List.mem_map.1 ha
        exact ⟨Int.le_refl _, by show (0 : Int) ≤ 4294967295; decide⟩) (by rw [nbf_len]; exact hl) St0
      have h157' : run kt (.func 157 [] []) [nums (l.map (typP (atomTy tmps) etyM)), .agg (Expr.t55 ⟨(Tree.mk a k ty op off l).kind, (Tree.mk a k ty op off l).ty, (Tree.mk a k ty op off l).op, (Tree.mk a k ty op off l).off, nbf 0 l.length⟩).enc] St0 = _ := h157
      rw [h157']
      simp only [Option.bind_some, openInt_v, typPs_map]
      refine exI_eq ?_
      simp [etyM, nbf_zero]
end Go.Sv
end
section
namespace Go.Sv
open Go Go.Proofs
set_option linter.all false
set_option maxRecDepth 1000000
set_option maxHeartbeats 0
noncomputable def asg173 : CC := asgOf (compF Tryz.f173).body
noncomputable def bd173 : CC := bdOf (compF Tryz.f173).body
noncomputable def asg127 : CC := asgOf (compF Tryz.f127).body
noncomputable def bd127 : CC := bdOf (compF Tryz.f127).body
/-- The tree of a waiting one. -/
def T98.tree (u : T98) : T37 := ⟨u.t_A_Tmp, u.t_A_Ty, u.t_A_C0, u.t_A_C1, u.t_A_C2, u.t_A_C3, u.t_Kind, u.t_Ty, u.t_Op, u.t_Off, u.t_L⟩
end Go.Sv
end
section
namespace Go.Sv
open Go Go.Proofs
set_option linter.all false
set_option maxRecDepth 1000000
set_option maxHeartbeats 0
def h128 : H := { hh with live := fun b => match b with  | _ => [], keep := fun b => match b with  | _ => none }
theorem tell128 (N : Nat) (u0 : T37) (S : St) : cBody (kt.at 128) h128 (run kt) N (compF Tryz.f128) [.agg u0.enc] S = storeK (kt.at 128) 200 (.ptr (St.next S) 0) (.func 177 [] [(.ptr (St.next S) 0)]) (St.alloc S (.cells [(.v .nilFunc)])) fun S0 => (some ((.func 178 [] [(.ptr (St.next S) 0), (.cp u0.enc)]), S0)) := by kernel_rfl
theorem fn128 : fnsK 128 = some (compF Tryz.f128) := by kernel_rfl
def h177 : H := { hh with live := fun b => match b with | 0 => [(5, 2), (11, 1)] | _ => [], keep := fun b => match b with  | _ => none }
theorem tell177 (N : Nat) (u0 : T37) (l : Nat) (b : Nat) (S : St) : cBody (kt.at 177) h177 (run kt) N (compF Tryz.f177) [.agg u0.enc, .yield l, .ptr b 0] S = (lenE (kt.at 177) 35 u0.l).bind fun r0 => openInt r0 fun a1 => (iter (fun vs2 S3 => openHd vs2 fun y4 r5 => openBool y4 fun b6 => openHd r5 fun y7 r8 => openInt y7 fun a9 => (splitB (.v (.bool (decide (a9 < a1))))
 ((indexAddrE (kt.at 177) 35 u0.l (.v (.int .i64 a9))).bind fun r10 => openCp cd37 r10 fun t11 => storeK (kt.at 177) 37 (.ptr (St.next S3) 0) (.agg t11.enc) (St.alloc S3 (.cells [(.v (.int .i64 (0 : Int))), (.v (.int .i64 (0 : Int))), (.v (.int .u32 (0 : Int))), (.v (.int .u32 (0 : Int))), (.v (.int .u32 (0 : Int))), (.v (.int .u32 (0 : Int))), (.v (.int .i64 (0 : Int))), (.v (.int .i64 (0 : Int))), (.v (.int .i64 (0 : Int))), (.v (.int .i64 (0 : Int))), (.v (.slice none 0 0))])) fun S12 => (loadE (kt.at 177) 200 (.ptr b 0) S12).bind fun r13 => (loadE (kt.at 177) 37 (.ptr (St.next S3) 0) S12).bind fun r14 => openAgg cd37 r14 fun t15 => (run kt r13 [(.agg t15.enc), (.yield l)] S12).bind fun p16 => openBool p16.1 fun b17 => (splitB (.v (.bool (!b17)))
 ((some (.ret, ([(.v (.bool false)), (.v (.int .i64 a9))], p16.2))))
 ((some (.normal, ([(.v (.bool b6)), (.v (.int .i64 (IntKind.wrap .i64 (a9 + (1 : Int)))))], p16.2))))))
 ((some ((.exit 0), ([(.v (.bool b6)), (.v (.int .i64 a9))], S3)))))) N [(.v (.bool false)), (.v (.int .i64 (0 : Int)))] S).bind fun q18 => openHd q18.2.1 fun y19 r20 => openBool y19 fun b21 => openHd r20 fun y22 r23 => openInt y22 fun a24 => (exits q18.1 (fun i25 => (if i25 = 0 then (run kt (.yield l) [(.agg u0.enc)] q18.2.2).bind fun p26 => openBool p26.1 fun b27 => (some ((.v (.bool b27)), p26.2)) else none)) ((some ((.v (.bool b21)), q18.2.2)))) := by kernel_rfl
theorem fn177 : fnsK 177 = some (compF Tryz.f177) := by kernel_rfl
def h178 : H := { hh with live := fun b => match b with  | _ => [], keep := fun b => match b with  | _ => none }
theorem tell178 (N : Nat) (l : Nat) (b : Nat) (u1 : T37) (S : St) : cBody (kt.at 178) h178 (run kt) N (compF Tryz.f178) [.yield l, .ptr b 0, .cp u1.enc] S = (loadE (kt.at 178) 200 (.ptr b 0) S).bind fun r0 => (run kt r0 [(.agg u1.enc), (.yield l)] S).bind fun p1 => openBool p1.1 fun b2 => (some ((.tuple []), p1.2)) := by kernel_rfl
theorem fn178 : fnsK 178 = some (compF Tryz.f178) := by kernel_rfl
def h172 : H := { hh with live := fun b => match b with  | _ => [], keep := fun b => match b with | 4 => some [(3, 2)] | _ => none }
theorem tell172 (N : Nat) (u0 : T37) (u1 : T59) : cBody (kt.at 172) h172 (run kt) N (compF Tryz.f172) [.agg u0.enc, .cp u1.enc] St0 = ((splitB (.v (.bool (u1.kind != (2 : Int))))
 ((some [(.v (.bool true))]))
 ((run kt (.func 173 [] []) [(.agg [(.v (.int .i64 u1.e_A_Tmp)), (.v (.int .i64 u1.e_A_Ty)), (.v (.int .u32 u1.e_A_C0)), (.v (.int .u32 u1.e_A_C1)), (.v (.int .u32 u1.e_A_C2)), (.v (.int .u32 u1.e_A_C3)), (.v (.int .i64 u1.e_Kind)), (.v (.int .i64 u1.e_Ty)), (.v (.int .i64 u1.e_Op)), (.v (.int .i64 u1.e_Off)), u1.e_L])] St0).bind fun p0 => openBool p0.1 fun b1 => (some [(.v (.bool b1))])))).bind fun vs2 => openHd vs2 fun y3 r4 => openBool y3 fun b5 => (some ((.v (.bool b5)), St0)) := by kernel_rfl
theorem fn172 : fnsK 172 = some (compF Tryz.f172) := by kernel_rfl
def h174 : H := { hh with live := fun b => match b with  | _ => [], keep := fun b => match b with  | _ => none }
theorem tell174 (N : Nat) (u0 : T37) (u1 : T59) : cBody (kt.at 174) h174 (run kt) N (compF Tryz.f174) [.agg u0.enc, .cp u1.enc] St0 = (some ((.v (.bool (u1.kind == (6 : Int)))), St0)) := by kernel_rfl
theorem fn174 : fnsK 174 = some (compF Tryz.f174) := by kernel_rfl
def h175 : H := { hh with live := fun b => match b with  | _ => [], keep := fun b => match b with  | _ => none }
theorem tell175 (N : Nat) (u0 : T37) (u1 : T59) : cBody (kt.at 175) h175 (run kt) N (compF Tryz.f175) [.agg u0.enc, .cp u1.enc] St0 = (some ((.v (.bool (u1.kind == (7 : Int)))), St0)) := by kernel_rfl
theorem fn175 : fnsK 175 = some (compF Tryz.f175) := by kernel_rfl
def h176 : H := { hh with live := fun b => match b with  | _ => [], keep := fun b => match b with | 5 => some [(4, 2)] | _ => none }
theorem tell176 (N : Nat) (u0 : T37) (u1 : T59) (b : Nat) (S : St) : cBody (kt.at 176) h176 (run kt) N (compF Tryz.f176) [.agg u0.enc, .cp u1.enc, .cp [.ptr b 0]] S = ((splitB (.v (.bool (u1.kind == (3 : Int))))
 ((if b < (St.next S) then (loadE (kt.at 176) 22 (.ptr b 0) S).bind fun r0 => (indexAddrE (kt.at 176) 35 u1.l (.v (.int .i64 (0 : Int)))).bind fun r1 => openCp cd37 r1 fun t2 => (run kt (.func 103 [] []) [r0, (.agg t2.enc)] S).bind fun p3 => openInt p3.1 fun a4 => (run kt (.func 111 [] []) [(.v (.int .i64 a4))] p3.2).bind fun p5 => openInt p5.1 fun a6 => (splitB (.v (.bool (decide (u0.off < (IntKind.wrap .i64 (u1.off + a6))))))
 ((run kt (.func 111 [] []) [(.v (.int .i64 u0.ty))] p5.2).bind fun p7 => openInt p7.1 fun a8 => (some [(.v (.bool (decide (u1.off < (IntKind.wrap .i64 (u0.off + a8))))))]))
 ((some [(.v (.bool false))]))) else none))
 ((some [(.v (.bool false))])))).bind fun vs9 => openHd vs9 fun y10 r11 => openBool y10 fun b12 => (some ((.v (.bool b12)), S)) := by kernel_rfl
theorem fn176 : fnsK 176 = some (compF Tryz.f176) := by kernel_rfl
def h126 : H := { hh with live := fun b => match b with  | _ => [], keep := fun b => match b with  | _ => none }
theorem tell126 (N : Nat) (b0 : Nat) (u1 : T59) (S : St) : cBody (kt.at 126) h126 (run kt) N (compF Tryz.f126) [.ptr b0 0, .agg u1.enc] S = (mapUpdateE (kt.at 126) 164 (.map (St.next S)) (.v (.int .i64 (5 : Int))) (.func 172 [] [(.cp u1.enc)]) (St.alloc S (.map []))).bind fun S0 => (mapUpdateE (kt.at 126) 164 (.map (St.next S)) (.v (.int .i64 (6 : Int))) (.func 174 [] [(.cp u1.enc)]) S0).bind fun S1 => (mapUpdateE (kt.at 126) 164 (.map (St.next S)) (.v (.int .i64 (9 : Int))) (.func 175 [] [(.cp u1.enc)]) S1).bind fun S2 => (mapUpdateE (kt.at 126) 164 (.map (St.next S)) (.v (.int .i64 (2 : Int))) (.func 176 [] [(.cp u1.enc), (.cp [(.ptr b0 0)])]) S2).bind fun S3 => (some ((.map (St.next S)), S3)) := by kernel_rfl
theorem fn126 : fnsK 126 = some (compF Tryz.f126) := by kernel_rfl
def h60 : H := { hh with live := fun b => match b with | 0 => [(6, 0), (18, 1)] | _ => [], keep := fun b => match b with  | _ => none }
theorem tell60 (N : Nat) (b0 : Nat) (u1 : T59) (S : St) : cBody (kt.at 60) h60 (run kt) N (compF Tryz.f60) [.ptr b0 0, .agg u1.enc] S = (run kt (.func 126 [] []) [(.ptr b0 0), (.agg u1.enc)] S).bind fun p0 => storeK (kt.at 60) 164 (.ptr (St.next p0.2) 0) p0.1 (St.alloc p0.2 (.cells [(.v (.map none))])) fun S1 => (loadE (kt.at 60) 90 (.ptr b0 16) S1).bind fun r2 => (lenE (kt.at 60) 90 r2).bind fun r3 => openInt r3 fun a4 => (iter (fun vs5 S6 => openHd vs5 fun y7 r8 => openHd r8 fun y9 r10 => openInt y9 fun a11 => (splitB (.v (.bool (decide (a11 < a4))))
 ((indexAddrE (kt.at 60) 90 r2 (.v (.int .i64 a11))).bind fun r12 => openPtr r12 fun b13 o14 => (loadE (kt.at 60) 98 (.ptr b13 o14) S6).bind fun r15 => openAgg cd98 r15 fun t16 => storeK (kt.at 60) 98 (.ptr (St.next S6) 0) (.agg t16.enc) (St.alloc S6 (.cells [(.v (.int .i64 (0 : Int))), (.v (.int .i64 (0 : Int))), (.v (.int .i64 (0 : Int))), (.v (.int .u32 (0 : Int))), (.v (.int .u32 (0 : Int))), (.v (.int .u32 (0 : Int))), (.v (.int .u32 (0 : Int))), (.v (.int .i64 (0 : Int))), (.v (.int .i64 (0 : Int))), (.v (.int .i64 (0 : Int))), (.v (.int .i64 (0 : Int))), (.v (.slice none 0 0))])) fun S17 => (loadE (kt.at 60) 98 (.ptr (St.next S6) 0) S17).bind fun r18 => openAgg cd98 r18 fun t19 => (run kt (.func 127 [] [(.ptr (St.next p0.2) 0)]) [(.agg t19.enc)] S17).bind fun p20 => openBool p20.1 fun b21 => (splitB (.v (.bool b21))
 ((if b0 < (St.next p20.2) then (loadE (kt.at 60) 34 (.ptr b0 1) p20.2).bind fun r22 => (if (St.next S6) < (St.next p20.2) then (loadE (kt.at 60) 3 (.ptr (St.next S6) 0) p20.2).bind fun r23 => openInt r23 fun a24 => (if (St.next S6) < (St.next p20.2) then (loadE (kt.at 60) 37 (.ptr (St.next S6) 1) p20.2).bind fun r25 => openAgg cd37 r25 fun t26 => (appendE (kt.at 60) 34 r22 (.sl (some (St.next p20.2)) 1 [(.v (.int .i64 (2 : Int))), (.v (.int .i64 a24)), (.v (.int .i64 (0 : Int))), (.v (.int .i64 (0 : Int))), (.v (.int .i64 (0 : Int))), (.v (.int .u32 (0 : Int))), (.v (.int .u32 (0 : Int))), (.v (.int .i64 t26.a_Tmp)), (.v (.int .i64 t26.a_Ty)), (.v (.int .u32 t26.a_C0)), (.v (.int .u32 t26.a_C1)), (.v (.int .u32 t26.a_C2)), (.v (.int .u32 t26.a_C3)), (.v (.int .i64 t26.kind)), (.v (.int .i64 t26.ty)), (.v (.int .i64 t26.op)), (.v (.int .i64 t26.off)), t26.l, (.v (.slice none 0 0))]) (St.alloc p20.2 (.own 19 19))).bind fun p27 => storeK (kt.at 60) 34 (.ptr b0 1) p27.1 p27.2 fun S28 => (if (St.next p20.2) ≤ (St.next S28) then (some (.normal, ([y7, (.v (.int .i64 (IntKind.wrap .i64 (a11 + (1 : Int)))))], S28))) else none) else none) else none) else none))
 ((loadE (kt.at 60) 98 (.ptr (St.next S6) 0) p20.2).bind fun r29 => openAgg cd98 r29 fun t30 => (appendE (kt.at 60) 90 y7 (.arr (St.next p20.2) 1) (St.alloc p20.2 (.arr 12 t30.enc))).bind fun p31 => (some (.normal, ([p31.1, (.v (.int .i64 (IntKind.wrap .i64 (a11 + (1 : Int)))))], p31.2))))))
 ((some ((.exit 0), ([y7, (.v (.int .i64 a11))], S6)))))) N [(.v (.slice none 0 0)), (.v (.int .i64 (0 : Int)))] S1).bind fun q32 => openHd q32.2.1 fun y33 r34 => openHd r34 fun y35 r36 => openInt y35 fun a37 => (exits q32.1 (fun i38 => (if i38 = 0 then storeK (kt.at 60) 90 (.ptr b0 16) y33 q32.2.2 fun S39 => (some ((.tuple []), S39)) else none)) ((some ((.tuple []), q32.2.2)))) := by kernel_rfl
theorem fn60 : fnsK 60 = some (compF Tryz.f60) := by kernel_rfl
theorem tellR173 (N l : Nat) (u0 : T37) (y : SV) (a : T37) (S : St) : rRound (kt.at 173) hh (run kt) N l (upd (upd (upd (upd (initρ [.agg u0.enc]) 1 (.cp u0.enc)) 2 (.ptr 0 0)) 4 (.agg u0.enc)) 5 y) [6] asg173 bd173 [.agg a.enc] S = storeK (kt.at 173) 37 (.ptr (St.next S) 0) (.agg a.enc) (St.alloc S (.cells [(.v (.int .i64 (0 : Int))), (.v (.int .i64 (0 : Int))), (.v (.int .u32 (0 : Int))), (.v (.int .u32 (0 : Int))), (.v (.int .u32 (0 : Int))), (.v (.int .u32 (0 : Int))), (.v (.int .i64 (0 : Int))), (.v (.int .i64 (0 : Int))), (.v (.int .i64 (0 : Int))), (.v (.int .i64 (0 : Int))), (.v (.slice none 0 0))])) fun S0 => busyK l S0 fun S1 => (loadE (kt.at 173) 3 (.ptr (St.next S) 6) S1).bind fun r2 => openInt r2 fun a3 => (splitB (.v (.bool (a3 == (5 : Int))))
 (storeK (kt.at 173) 4 (.ptr 0 0) (.v (.bool true)) S1 fun S4 => (doneK l (some .ret) false S4))
 ((doneK l none true S1))) := by kernel_rfl
theorem fn173 : fnsK 173 = some (compF Tryz.f173) := by kernel_rfl
theorem tellR127 (N l : Nat) (u0 : T98) (c b : Nat) (y : SV) (a : T37) (S : St) : rRound (kt.at 127) hh (run kt) N l (upd (upd (upd (upd (upd (initρ [.agg u0.enc, .ptr c 0]) 2 (.cp u0.enc)) 3 (.ptr b 0)) 7 (.cp (u0.enc.drop 1))) 8 (.agg u0.tree.enc)) 9 y) [10] asg127 bd127 [.agg a.enc] S = storeK (kt.at 127) 37 (.ptr (St.next S) 0) (.agg a.enc) (St.alloc S (.cells [(.v (.int .i64 (0 : Int))), (.v (.int .i64 (0 : Int))), (.v (.int .u32 (0 : Int))), (.v (.int .u32 (0 : Int))), (.v (.int .u32 (0 : Int))), (.v (.int .u32 (0 : Int))), (.v (.int .i64 (0 : Int))), (.v (.int .i64 (0 : Int))), (.v (.int .i64 (0 : Int))), (.v (.int .i64 (0 : Int))), (.v (.slice none 0 0))])) fun S0 => busyK l S0 fun S1 => (loadE (kt.at 127) 164 (.ptr c 0) S1).bind fun r2 => (loadE (kt.at 127) 3 (.ptr (St.next S) 6) S1).bind fun r3 => openInt r3 fun a4 => (lookupE (kt.at 127) 164 r2 (.v (.int .i64 a4)) true S1).bind fun r5 => (extE r5 0).bind fun r6 => (extE r5 1).bind fun r7 => openBool r7 fun b8 => (splitB (.v (.bool b8))
 ((loadE (kt.at 127) 37 (.ptr (St.next S) 0) S1).bind fun r9 => openAgg cd37 r9 fun t10 => (run kt r6 [(.agg t10.enc)] S1).bind fun p11 => openBool p11.1 fun b12 => (splitB (.v (.bool b12))
 (storeK (kt.at 127) 4 (.ptr b 0) (.v (.bool true)) p11.2 fun S13 => (doneK l (some .ret) false S13))
 ((doneK l none true p11.2))))
 ((doneK l none true S1))) := by kernel_rfl
theorem fn127 : fnsK 127 = some (compF Tryz.f127) := by kernel_rfl
theorem tell173 (N : Nat) (u0 : T37) : rBody (kt.at 173) hh (run kt) N 173 (compF Tryz.f173) [.agg u0.enc] St0 =
 (run kt (.func 128 [] []) [.agg u0.enc] (St0.alloc (.cells [.v (.bool false)]))).bind fun p => (run kt p.1 [.yield (p.2.next+1)] (mkLoop 173 (upd (upd (upd (upd (initρ [.agg u0.enc]) 1 (.cp u0.enc)) 2 (.ptr 0 0)) 4 (.agg u0.enc)) 5 p.1) [6] asg173 bd173 p.2)).bind fun q => pendK (q.2.get (p.2.next+1))
  (storeK (kt.at 173) 4 (.ptr 0 0) (.v (.bool false)) (q.2.put (p.2.next+1) .dead) fun S1 => dropK [p.2.next] S1 fun S2 => (loadE (kt.at 173) 4 (.ptr 0 0) S2).bind fun x => some (x, S2))
  (dropK [p.2.next] (q.2.put (p.2.next+1) .dead) fun S2 => (loadE (kt.at 173) 4 (.ptr 0 0) S2).bind fun x => some (x, S2)) := by kernel_rfl
theorem tell127 (N : Nat) (c : Nat) (u0 : T98) (S : St) : rBody (kt.at 127) hh (run kt) N 127 (compF Tryz.f127) [.agg u0.enc, .ptr c 0] S =
 (run kt (.func 128 [] []) [.agg u0.tree.enc] (S.alloc (.cells [.v (.bool false)]))).bind fun p => (run kt p.1 [.yield (p.2.next+1)] (mkLoop 127 (upd (upd (upd (upd (upd (initρ [.agg u0.enc, .ptr c 0]) 2 (.cp u0.enc)) 3 (.ptr S.next 0)) 7 (.cp (u0.enc.drop 1))) 8 (.agg u0.tree.enc)) 9 p.1) [10] asg127 bd127 p.2)).bind fun q => pendK (q.2.get (p.2.next+1))
  (storeK (kt.at 127) 4 (.ptr S.next 0) (.v (.bool false)) (q.2.put (p.2.next+1) .dead) fun S1 => dropK [p.2.next] S1 fun S2 => (loadE (kt.at 127) 4 (.ptr S.next 0) S2).bind fun x => some (x, S2))
  (dropK [p.2.next] (q.2.put (p.2.next+1) .dead) fun S2 => (loadE (kt.at 127) 4 (.ptr S.next 0) S2).bind fun x => some (x, S2)) := by kernel_rfl
end Go.Sv
end
section
namespace Go.Sv
open Go Go.Proofs Go.Proofs.YtkflapebfmcmaaaGreat
set_option linter.all false
set_option maxRecDepth 100000

theorem ag200 {k : K} (hP : k.P = Tryz.prog) : agg? k 200 = some false := by unfold agg?; rw [hP, Tryz.underlying200]
theorem sz200 {k : K} (hP : k.P = Tryz.prog) : size? k 200 = some 1 := size_of hP (by kernel_rfl)

/-- A loop over a list by its index, with a state, that may leave. -/
theorem iter_anyS {α : Type} (ex : Nat) {F : List SV → St → Option (Ex × List SV × St)} (l : List α) (vs : Nat → List SV) (I R : St → Prop) (c : α → Bool) (out : Nat → List SV)
    (hstep : ∀ i (h : i < l.length) S, I S → if c l[i] = true then ∃ S', F (vs i) S = some (.ret, out i, S') ∧ R S' else ∃ S', F (vs i) S = some (.normal, vs (i + 1), S') ∧ I S')
    (hend : ∀ S, I S → F (vs l.length) S = some (.exit ex, vs l.length, S)) {M : Nat} (hM : l.length < M) (S : St) (hI : I S) :
    if l.any c = true then ∃ j S', iter F M (vs 0) S = some (.ret, out j, S') ∧ R S' else ∃ S', iter F M (vs 0) S = some (.exit ex, vs l.length, S') ∧ I S' := by
  suffices ∀ (suf : List α) (i : Nat), l.drop i = suf → i ≤ l.length → ∀ M S, suf.length < M → I S → if suf.any c = true then ∃ j S', iter F M (vs i) S = some (.ret, out j, S') ∧ R S' else ∃ S', iter F M (vs i) S = some (.exit ex, vs l.length, S') ∧ I S' by
    exact this l 0 rfl (by omega) M S hM hI
  intro suf
  induction suf with
  | nil =>
    intro i hd hi M S hM hI
    obtain ⟨M, rfl⟩ : ∃ m, M = m + 1 := ⟨M - 1, by have : 0 < M := hM; omega⟩
    have : l.length ≤ i := by
      have := congrArg List.length hd
      simp at this; omega
    have e : i = l.length := by omega
    subst e
    exact ⟨S, iter_exit (hend S hI), hI⟩
  | cons x r ih =>
    intro i hd hi M S hM hI
    obtain ⟨M, rfl⟩ : ∃ m, M = m + 1 := ⟨M - 1, by rw [List.length_cons] at hM; omega⟩
    have hlt : i < l.length := by
      have := congrArg List.length hd
      simp at this; omega
    have hx : l[i] = x := by
      have := congrArg (fun z => z[0]?) hd
      simp [hlt] at this
      exact this
    have hdr : l.drop (i + 1) = r := by
      have := congrArg List.tail hd
      simpa using this
    have step := hstep i hlt S hI
    rw [hx] at step
    rw [List.any_cons]
    cases hc : c x with
    | true =>
      rw [hc, if_pos rfl] at step
      obtain ⟨S', h1, h2⟩ := step
      rw [Bool.true_or, if_pos rfl]
      exact ⟨i, S', iter_ret h1, h2⟩
    | false =>
      rw [hc, if_neg (by decide)] at step
      obtain ⟨S', h1, h2⟩ := step
      have := ih (i + 1) hdr hlt M S' (by simpa using hM) h2
      rw [Bool.false_or, iter_normal h1]
      exact this

/-- The nodes and leaves of a tree, one by one, as long as the loop goes on. -/
theorem spec177 (b l : Nat) (I R : St → Prop) (c : Tree → Bool)
    (hfl : ∀ S, I S → S.floor ≤ S.next) (hbox : ∀ S z o, I S → I (boxed S z o)) (hfun : ∀ S, I S → b < S.next ∧ S.get b = .cells [.func 177 [] [.ptr b 0]]) (t : Tree)
    (G : Tree → Prop) (hG : ∀ t, G t → TG t ∧ ∀ x ∈ t.l, G x)
    (hround : ∀ y S, G y → I S → if c y = true then ∃ S', run kt (.yield l) [.agg y.cells] S = some (.v (.bool false), S') ∧ R S' else ∃ S', run kt (.yield l) [.agg y.cells] S = some (.v (.bool true), S') ∧ I S') :
    ∀ S, G t → I S → if anyN c t = true then ∃ S', run kt (.func 177 [] [.ptr b 0]) [.agg t.cells, .yield l] S = some (.v (.bool false), S') ∧ R S' else ∃ S', run kt (.func 177 [] [.ptr b 0]) [.agg t.cells, .yield l] S = some (.v (.bool true), S') ∧ I S' := by
  induction t using Tree.ind with
  | h a k ty op off ts ih =>
    intro S hg hI
    have hg' := hG _ hg
    have hlen : ts.length ≤ 1000000 := by have := hg'.1; rw [TG] at this; exact this.1
    have go : ∀ z, cBody (kt.at 177) h177 (run kt) 2000000 (compF Tryz.f177) [.agg (Tree.mk a k ty op off ts).cells, .yield l, .ptr b 0] S = some z → run kt (.func 177 [] [.ptr b 0]) [.agg (Tree.mk a k ty op off ts).cells, .yield l] S = some z :=
      fun z h => go_plain ks_kt (f := 177) (fst := []) (cap := [.ptr b 0]) h177 2000000 rfl (fn_kt 177 fn177) rfl (by simpa using h)
    have e0 := tell177 2000000 (Tree.mk a k ty op off ts).t37 l b S
    rw [show T37.enc (Tree.mk a k ty op off ts).t37 = (Tree.mk a k ty op off ts).cells from rfl] at e0
    rw [e0] at go
    clear e0
    rw [t37_l, show (Tree.mk a k ty op off ts).l = ts from rfl] at go
    simp only [len_sl (P_kt 177) Tryz.underlying35, Option.bind_some, openInt_v, splitB_dec] at go
    generalize hF : (fun vs0 S1 => _ : List SV → St → Option (Ex × List SV × St)) = F at go
    have main := iter_anyS 0 (F := F) ts (fun i => [.v (.bool false), .v (.int .i64 (i : Int))]) I R (anyN c) (fun i => [.v (.bool false), .v (.int .i64 (i : Int))])
      (fun i hi S hI => by
        have hx : ts[i] ∈ ts := List.getElem_mem hi
        have hlt : ((i : Nat) : Int) < ((ts.length : Nat) : Int) := by omega
        have hz := hbox S (.cells z37) (.cells ts[i].cells) hI
        have hb := hfun _ hz
        have hst : ∀ {Z : Type} (K : St → Option Z), storeK (kt.at 177) 37 (.ptr S.next 0) (.agg ts[i].cells) (S.alloc (.cells z37)) K = K (boxed S (.cells z37) (.cells ts[i].cells)) := fun K => store_box (sz37' (P_kt 177)) (by decide) (hfl S hI) rfl (Tree.cells_len _) K
        have hld : loadE (kt.at 177) 37 (.ptr S.next 0) (boxed S (.cells z37) (.cells ts[i].cells)) = some (.agg ts[i].cells) := load_box (agg_st (P_kt 177) Tryz.underlying37) (sz37' (P_kt 177)) (Tree.cells_len _)
        have hrec := ih ts[i] hx (boxed S (.cells z37) (.cells ts[i].cells)) (hg'.2 ts[i] hx) hz
        rw [← hF]
        simp only [openHd_v, openBool_v, openInt_v]
        rw [if_pos hlt, index_sl (P_kt 177) Tryz.underlying35 size37 Tree.cells Tree.cells_len ts i hi]
        simp only [Option.bind_some, openCp37']
        rw [show T37.enc ts[i].t37 = ts[i].cells from rfl]
        rw [show (S.alloc (.cells [(.v (.int .i64 (0 : Int))), (.v (.int .i64 (0 : Int))), (.v (.int .u32 (0 : Int))), (.v (.int .u32 (0 : Int))), (.v (.int .u32 (0 : Int))), (.v (.int .u32 (0 : Int))), (.v (.int .i64 (0 : Int))), (.v (.int .i64 (0 : Int))), (.v (.int .i64 (0 : Int))), (.v (.int .i64 (0 : Int))), (.v (.slice none 0 0))])) = S.alloc (.cells z37) from rfl, hst]
        rw [ld1 (ag200 (P_kt 177)) (sz200 (P_kt 177)) hb.2, hld]
        simp only [List.drop_zero, List.head?_cons, Option.bind_some, openAgg37']
        rw [show T37.enc ts[i].t37 = ts[i].cells from rfl]
        generalize boxed S (.cells z37) (.cells ts[i].cells) = S1 at hrec
        rw [wrap_in (by omega) (by omega)]
        cases hc : anyN c ts[i] with
        | true =>
          rw [hc, if_pos rfl] at hrec
          obtain ⟨S', r1, r2⟩ := hrec
          rw [if_pos rfl, r1]
          exact ⟨S', rfl, r2⟩
        | false =>
          rw [hc, if_neg (by decide)] at hrec
          obtain ⟨S', r1, r2⟩ := hrec
          rw [if_neg (by decide), r1]
          exact ⟨S', rfl, r2⟩)
      (fun S hI => by
        rw [← hF]
        simp only [openHd_v, openBool_v, openInt_v]
        rw [if_neg (by omega)]) (M := 2000000) (by omega) S hI
    rw [anyN, anyNs_any]
    cases hany : ts.any (anyN c) with
    | true =>
      rw [hany, if_pos rfl] at main
      obtain ⟨j, S', m1, m2⟩ := main
      have m1 : iter F 2000000 [.v (.bool false), .v (.int .i64 0)] S = _ := m1
      rw [Bool.true_or, if_pos rfl]
      refine ⟨S', go _ ?_, m2⟩
      rw [m1]; rfl
    | false =>
      rw [hany, if_neg (by decide)] at main
      obtain ⟨S', m1, m2⟩ := main
      have m1 : iter F 2000000 [.v (.bool false), .v (.int .i64 0)] S = _ := m1
      have hr := hround (Tree.mk a k ty op off ts) S' hg m2
      rw [Bool.false_or]
      cases hc : c (Tree.mk a k ty op off ts) with
      | true =>
        rw [hc, if_pos rfl] at hr
        obtain ⟨S2, r1, r2⟩ := hr
        rw [if_pos rfl]
        refine ⟨S2, go _ ?_, r2⟩
        rw [m1]
        simp only [Option.bind_some, openHd_v, openBool_v, openInt_v, exits_exit, if_true, r1]
      | false =>
        rw [hc, if_neg (by decide)] at hr
        obtain ⟨S2, r1, r2⟩ := hr
        rw [if_neg (by decide)]
        refine ⟨S2, go _ ?_, r2⟩
        rw [m1]
        simp only [Option.bind_some, openHd_v, openBool_v, openInt_v, exits_exit, if_true, r1]

theorem spec178 (b l : Nat) (I R : St → Prop) (c : Tree → Bool)
    (hfl : ∀ S, I S → S.floor ≤ S.next) (hbox : ∀ S z o, I S → I (boxed S z o)) (hfun : ∀ S, I S → b < S.next ∧ S.get b = .cells [.func 177 [] [.ptr b 0]]) (t : Tree)
    (G : Tree → Prop) (hG : ∀ t, G t → TG t ∧ ∀ x ∈ t.l, G x)
    (hround : ∀ y S, G y → I S → if c y = true then ∃ S', run kt (.yield l) [.agg y.cells] S = some (.v (.bool false), S') ∧ R S' else ∃ S', run kt (.yield l) [.agg y.cells] S = some (.v (.bool true), S') ∧ I S') (S : St) (hg : G t) (hI : I S) :
    ∃ S', run kt (.func 178 [] [.ptr b 0, .cp t.cells]) [.yield l] S = some (.tuple [], S') ∧ if anyN c t = true then R S' else I S' := by
  have h := spec177 b l I R c hfl hbox hfun t G hG hround S hg hI
  have go : ∀ z, cBody (kt.at 178) h178 (run kt) 0 (compF Tryz.f178) [.yield l, .ptr b 0, .cp t.cells] S = some z → run kt (.func 178 [] [.ptr b 0, .cp t.cells]) [.yield l] S = some z :=
    fun z h => go_plain ks_kt (f := 178) (fst := []) (cap := [.ptr b 0, .cp t.cells]) h178 0 rfl (fn_kt 178 fn178) rfl (by simpa using h)
  have e0 := tell178 0 l b t.t37 S
  rw [show T37.enc t.t37 = t.cells from rfl] at e0
  rw [e0] at go
  clear e0
  rw [ld1 (ag200 (P_kt 178)) (sz200 (P_kt 178)) (hfun S hI).2] at go
  simp only [List.drop_zero, List.head?_cons, Option.bind_some] at go
  cases hc : anyN c t with
  | true =>
    rw [hc, if_pos rfl] at h
    obtain ⟨S', h1, h2⟩ := h
    rw [h1] at go
    exact ⟨S', go _ rfl, by rw [if_pos rfl]; exact h2⟩
  | false =>
    rw [hc, if_neg (by decide)] at h
    obtain ⟨S', h1, h2⟩ := h
    rw [h1] at go
    exact ⟨S', go _ rfl, by rw [if_neg (by decide)]; exact h2⟩

theorem spec128 (t : Tree) (S : St) (hf : S.floor ≤ S.next) : run kt (.func 128 [] []) [.agg t.cells] S = some (.func 178 [] [.ptr S.next 0, .cp t.cells], boxed S (.cells [.v .nilFunc]) (.cells [.func 177 [] [.ptr S.next 0]])) := by
  refine go_plain ks_kt (f := 128) (fst := []) (cap := []) h128 0 rfl (fn_kt 128 fn128) rfl ?_
  simp only [List.nil_append, List.append_nil]
  rw [show t.cells = T37.enc t.t37 from rfl, tell128]
  rw [st1 (S := S.alloc (.cells [.v .nilFunc])) (sz200 (P_kt 128)) (cs := [.v .nilFunc]) (by simp [St.alloc]) hf (by simp) rfl]
  rfl
end Go.Sv
end
