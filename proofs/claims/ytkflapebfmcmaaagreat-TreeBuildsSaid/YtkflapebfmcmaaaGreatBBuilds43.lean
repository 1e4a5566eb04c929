/- Parts of the proofs of this seat's laws: an interpreter of the program's form, its soundness against the model, or what it answers on this program. -/
import Derived.Test.YtkflapebfmcmaaaGreatBBuilds42
import Derived.Test.YtkflapebfmcmaaaGreatBBuilds27
section
namespace Go.Sv
open Go Go.Proofs Go.Proofs.YtkflapebfmcmaaaGreat
set_option linter.all false
set_option maxRecDepth 100000

theorem bytesU {x : Option Nat} (h : x.map (fun n => decide (n ≠ 0 ∧ n ≤ 1000)) = some true) : ∃ n, x = some n ∧ n ≠ 0 ∧ n ≤ 1000 := by
  cases x with
  | none => cases h
  | some n => exact ⟨n, rfl, of_decide_eq_true (by simpa using h)⟩
theorem bytes64w : ∃ n, bytes? (kt.at 64) 104 = some n ∧ n ≠ 0 ∧ n ≤ 1000 := bytesU (by kernel_rfl)
theorem bytes64t : ∃ n, bytes? (kt.at 64) 37 = some n ∧ n ≠ 0 ∧ n ≤ 1000 := bytesU (by kernel_rfl)
theorem zero64w : ∃ z, zero? (kt.at 64) 104 = some z ∧ z.length = 12 := zlenU (by kernel_rfl)
theorem zero64t : ∃ z, zero? (kt.at 64) 37 = some z ∧ z.length = 11 := zlenU (by kernel_rfl)
theorem sz104 {k : K} (hP : k.P = Tryz.prog) : size? k 104 = some 12 := size_of hP size104
theorem sz98 {k : K} (hP : k.P = Tryz.prog) : size? k 98 = some 12 := size_of hP size98
theorem sz37' {k : K} (hP : k.P = Tryz.prog) : size? k 37 = some 11 := size_of hP size37
theorem splice_all {cs ys : List SV} (h : ys.length = cs.length) : splice cs 0 ys = ys := by simp [splice, h]
theorem w104_tree (p : Int × Tree) : [(SV.v (.int .i64 (w104 p).t_A_Tmp)), (.v (.int .i64 (w104 p).t_A_Ty)), (.v (.int .u32 (w104 p).t_A_C0)), (.v (.int .u32 (w104 p).t_A_C1)), (.v (.int .u32 (w104 p).t_A_C2)), (.v (.int .u32 (w104 p).t_A_C3)), (.v (.int .i64 (w104 p).t_Kind)), (.v (.int .i64 (w104 p).t_Ty)), (.v (.int .i64 (w104 p).t_Op)), (.v (.int .i64 (w104 p).t_Off)), (w104 p).t_L] = p.2.cells := by
  rw [cells_eq]; rfl

theorem pickR_snoc (n : Int) (t0 : Tree) (w : Wt) (p : Int × Tree) : pickR n t0 (w ++ [p]) = if hitR n p = true then (p.2, (pickR n t0 w).2) else ((pickR n t0 w).1, (pickR n t0 w).2 ++ [p]) := by
  unfold pickR
  rw [List.foldl_append, List.filter_append]
  cases h : hitR n p <;> simp [h]
theorem takenR_snoc (l : List Atom) (a : Atom) : ∀ w, takenR (l ++ [a]) w = ((takenR l w).1 ++ [(pickR a.tmp (leafT a) (takenR l w).2).1], (pickR a.tmp (leafT a) (takenR l w).2).2) := by
  induction l with
  | nil => intro w; simp [takenR]
  | cons x r ih => intro w; simp only [List.cons_append, takenR, ih]
theorem takenR_len (l : List Atom) : ∀ w, (takenR l w).1.length = l.length ∧ (takenR l w).2.length ≤ w.length := by
  induction l with
  | nil => intro w; exact ⟨rfl, Nat.le_refl _⟩
  | cons x r ih =>
    intro w
    simp only [takenR]
    refine ⟨by rw [List.length_cons, (ih _).1, List.length_cons], Nat.le_trans (ih _).2 ?_⟩
    unfold pickR
    exact List.length_filter_le _ _

set_option maxHeartbeats 2000000 in
theorem spec64 (l : List Atom) (w : Wt) (hl : l.length ≤ 1000000) (hw : w.length ≤ 1000000) {x y : SV} (hx : weak (shut x) = atoms l) (hy : weak (shut y) = sl wc w) (S : St) : run kt (.func 64 [] []) [x, y] S = some (.tuple [sl Tree.cells (takenR l w).1, sl wc (takenR l w).2], S) := by
  suffices ∃ y1 y2 S2, cBody (kt.at 64) h64 (run kt) 2000000 (compF Tryz.f64) [atoms l, sl wc w] St0 = some (.tuple [y1, y2], S2) ∧ Rd' Tree.cells (takenR l w).1 y1 ∧ Rd' wc (takenR l w).2 y2 by
    obtain ⟨y1, y2, S2, h1, h2, h3⟩ := this
    have := go_closed ks_kt (f := 64) (fst := []) (cap := []) (args := [x, y]) (S := S) h64 2000000 rfl (fn_kt 64 fn64) rfl (z := (.tuple [y1, y2], S2)) (by
      simp only [List.nil_append, List.append_nil, List.map_cons, List.map_nil, hx, hy]
      exact h1)
    rw [tup2_erase (rd_erase cl_tree h2 S2) (rd_erase cl_wc h3 S2)] at this
    exact this
  have e0 := tell64 2000000 l.length (l.flatMap ac) w.length (w.flatMap wc)
  rw [show SV.sl none l.length (l.flatMap ac) = atoms l from rfl, show SV.sl none w.length (w.flatMap wc) = sl wc w from rfl] at e0
  rw [e0]
  clear e0
  simp only [splitB_dec]
  obtain ⟨bw, hbw, bw0, bw1⟩ := bytes64w
  obtain ⟨bt, hbt, bt0, bt1⟩ := bytes64t
  obtain ⟨zw, hzw, zwl⟩ := zero64w
  obtain ⟨zt, hzt, ztl⟩ := zero64t
  generalize hF : (fun vs0 S1 => _ : List SV → St → Option (Ex × List SV × St)) = F
  obtain ⟨vs, S', h1, hf, y2, y4, rfl, hy2, hy4⟩ := iter_inv 0 (F := F) l.length
    (fun i vs S => S.floor = 0 ∧ ∃ y2 y4, vs = [y2, y4, .v (.int .i64 (i : Int))] ∧ Rd' wc (takenR (l.take i) w).2 y2 ∧ AccL Tree.cells 11 0 (takenR (l.take i) w).1 y4 S)
    (fun i hi vs S hI => by
      obtain ⟨hf, y2, y4, rfl, hy2, hy4⟩ := hI
      have hlen := takenR_len (l.take i) w
      generalize hcur : takenR (l.take i) w = cur at hy2 hy4 hlen
      rw [← hF]
      simp only [openHd_v, openInt_v]
      rw [if_pos (by omega), index_atoms (P_kt 64) .i64 l i hi]
      simp only [Option.bind_some, openCp28']
      rw [spec68]
      simp only [Option.bind_some]
      rw [openAgg37', show T37.enc (leafT l[i]).t37 = (leafT l[i]).cells from rfl]
      rw [store_box (sz37' (P_kt 64)) (by decide) (by omega) rfl (Tree.cells_len _)]
      generalize hS1 : boxed S _ _ = S1
      have g1 : S1.get S.next = .cells (leafT l[i]).cells := by rw [← hS1]; exact boxed_self _ _ _
      have f1 : S1.floor = 0 := by rw [← hS1]; exact hf
      have n1 : S1.next = S.next + 1 := by rw [← hS1]; rfl
      have k1 : ∀ c, c < S.next → S1.get c = S.get c := by intro c hc; rw [← hS1]; exact boxed_get _ _ _ _ hc
      clear hS1
      generalize hG : (fun vs0 S1 => _ : List SV → St → Option (Ex × List SV × St)) = G
      obtain ⟨vs, S2, h2, f2, g2, k2, y16, rfl, hy16⟩ := iter_inv 2 (F := G) cur.2.length
        (fun j vs S' => S'.floor = 0 ∧ S'.get S.next = .cells (pickR l[i].tmp (leafT l[i]) (cur.2.take j)).1.cells ∧ (∀ c, c < S.next → S'.get c = S.get c) ∧ ∃ y, vs = [y, .v (.int .i64 (j : Int))] ∧ AccL wc 12 (S.next + 1) (pickR l[i].tmp (leafT l[i]) (cur.2.take j)).2 y S')
        (fun j hj vs S' hI => by
          obtain ⟨f, g, kk, y, rfl, hy⟩ := hI
          have hgat : (if l[i].t28.tmp ≥ (0 : Int) then ((indexAddrE (kt.at 64) 99 y2 (.v (.int .i64 (j : Int)))).bind fun r25 => openCp cd104 r25 fun t26 => (some [(SV.v (.bool (t26.tmp == l[i].t28.tmp)))])) else ((some [(.v (.bool false))]))) = some [.v (.bool (hitR l[i].tmp cur.2[j]))] := by
            rw [rd_index (P_kt 64) Tryz.underlying99 size104 wc_len hy2 j hj .i64]
            simp only [Option.bind_some, openCp104]
            unfold hitR
            by_cases h0 : l[i].tmp ≥ 0
            · have h0' : l[i].t28.tmp ≥ 0 := h0
              rw [if_pos h0', decide_eq_true h0, Bool.true_and]; rfl
            · have h0' : ¬ l[i].t28.tmp ≥ 0 := h0
              rw [if_neg h0', decide_eq_false h0, Bool.false_and]
          have hr2 : (pickR l[i].tmp (leafT l[i]) (cur.2.take j)).2.length ≤ j := by
            unfold pickR
            refine Nat.le_trans (List.length_filter_le _ _) ?_
            rw [List.length_take]; exact Nat.min_le_left _ _
          rw [← hG]
          simp only [openHd_v, openInt_v]
          rw [rd_len (P_kt 64) Tryz.underlying99 hy2]
          simp only [Option.bind_some, openInt_v]
          rw [if_pos (by omega), hgat]
          simp only [Option.bind_some, openHd_v, openBool_v]
          rw [rd_index (P_kt 64) Tryz.underlying99 size104 wc_len hy2 j hj .i64, List.take_succ_eq_append_getElem hj, pickR_snoc]
          simp only [Option.bind_some, openCp104]
          rw [w104_tree, wrap_in (by omega) (by omega)]
          cases hh : hitR l[i].tmp cur.2[j] with
          | true =>
            rw [splitB_t, stN (sz37' (P_kt 64)) (by decide) g (by omega) (Tree.cells_len _) (by rw [Tree.cells_len]; omega), splice_all (by rw [Tree.cells_len, Tree.cells_len])]
            refine ⟨_, _, rfl, f, put_get _ _ _, fun c hc => by rw [get_put _ _ _ _ (by omega)]; exact kk c hc, y, rfl, ?_⟩
            exact accL_keep hy rfl (Nat.le_refl _) fun b hb _ => get_put _ _ _ _ (by omega)
          | false =>
            rw [splitB_f, w104_enc]
            obtain ⟨y', S'', a1, a2, a3, a4, a5, a6⟩ := accL_append wc_len (elem_of (P_kt 64) Tryz.underlying99) (sz104 (P_kt 64)) hbw hzw (by decide) bw0 zwl (by decide) hy cur.2[j] (by
              refine Nat.le_trans (Nat.mul_le_mul (show _ ≤ 1000001 by omega) bw1) ?_
              decide)
            rw [a1]
            exact ⟨_, _, rfl, by rw [a3, f], by rw [a5 _ (by omega)]; exact g, fun c hc => by rw [a5 c (by omega)]; exact kk c hc, y', rfl, a2⟩)
        (fun vs S' hI => by
          obtain ⟨f, g, kk, y, rfl, hy⟩ := hI
          rw [← hG]
          simp only [openHd_v, openInt_v]
          rw [rd_len (P_kt 64) Tryz.underlying99 hy2]
          simp only [Option.bind_some, openInt_v]
          rw [if_neg (by omega)])
        cur.2.length 0 rfl [.v (.slice none 0 0), .v (.int .i64 0)] S1 2000000 ⟨f1, by rw [List.take_zero]; exact g1, k1, _, rfl, by rw [List.take_zero]; exact accL0 _ _ _ (by omega) (by omega)⟩ (by omega)
      rw [h2]
      rw [List.take_length] at g2 hy16
      simp only [Option.bind_some, openHd_v, openInt_v, exits_exit, if_true]
      have hld : loadE (kt.at 64) 37 (.ptr S.next 0) S2 = some (.agg (pickR l[i].tmp (leafT l[i]) cur.2).1.cells) := by
        have hcl := Tree.cells_len (pickR l[i].tmp (leafT l[i]) cur.2).1
        simp only [loadE, agg_st (P_kt 64) Tryz.underlying37, sz37' (P_kt 64), g2, Option.bind_some, objCells, takeVal, List.drop_zero, if_true]
        rw [if_pos (by omega), ← hcl, List.take_length]
      rw [hld]
      simp only [Option.bind_some, openAgg37']
      have hn2 := hy16.2.1
      have hy4' : AccL Tree.cells 11 0 cur.1 y4 S2 := accL_keep hy4 (by rw [f2, hf]) (by omega) fun b _ hb => k2 b hb
      obtain ⟨y', S3, a1, a2, a3, a4, a5, a6⟩ := accL_append Tree.cells_len (elem_of (P_kt 64) Tryz.underlying35) (sz37' (P_kt 64)) hbt hzt (by decide) bt0 ztl (by decide) hy4' (pickR l[i].tmp (leafT l[i]) cur.2).1 (by
        have : cur.1.length ≤ 1000000 := by rw [hlen.1, List.length_take]; omega
        refine Nat.le_trans (Nat.mul_le_mul (show _ ≤ 1000001 by omega) bt1) ?_
        decide)
      rw [show T37.enc (pickR l[i].tmp (leafT l[i]) cur.2).1.t37 = (pickR l[i].tmp (leafT l[i]) cur.2).1.cells from rfl, a1]
      simp only [Option.bind_some]
      rw [wrap_in (by omega) (by omega)]
      refine ⟨_, _, rfl, by rw [a3, f2], y16, y', rfl, ?_, ?_⟩
      · rw [List.take_succ_eq_append_getElem hi, takenR_snoc, hcur]; exact accL_rd hy16
      · rw [List.take_succ_eq_append_getElem hi, takenR_snoc, hcur]; exact a2)
    (fun vs S hI => by
      obtain ⟨hf, y2, y4, rfl, hy2, hy4⟩ := hI
      rw [← hF]
      simp only [openHd_v, openInt_v]
      rw [if_neg (by omega)])
    l.length 0 rfl [sl wc w, .v (.slice none 0 0), .v (.int .i64 0)] St0 2000000 ⟨rfl, _, _, rfl, by rw [List.take_zero]; exact rd_sl wc w, by rw [List.take_zero]; exact accL0 _ _ _ (Nat.zero_le _) (Nat.zero_le _)⟩ (by omega)
  rw [h1]
  rw [List.take_length] at hy2 hy4
  simp only [Option.bind_some, openHd_v, openInt_v, exits_exit, if_true]
  exact ⟨y4, y2, S', rfl, accL_rd hy4, hy2⟩
end Go.Sv
end
section
namespace Go.Sv
open Go Go.Proofs Go.Proofs.YtkflapebfmcmaaaGreat
set_option linter.all false
set_option maxRecDepth 100000

def z59 : List SV := [(.v (.int .i64 (0 : Int))), (.v (.int .i64 (0 : Int))), (.v (.int .i64 (0 : Int))), (.v (.int .i64 (0 : Int))), (.v (.int .i64 (0 : Int))), (.v (.int .u32 (0 : Int))), (.v (.int .u32 (0 : Int))), (.v (.int .i64 (0 : Int))), (.v (.int .i64 (0 : Int))), (.v (.int .u32 (0 : Int))), (.v (.int .u32 (0 : Int))), (.v (.int .u32 (0 : Int))), (.v (.int .u32 (0 : Int))), (.v (.int .i64 (0 : Int))), (.v (.int .i64 (0 : Int))), (.v (.int .i64 (0 : Int))), (.v (.int .i64 (0 : Int))), (.v (.slice none 0 0)), (.v (.slice none 0 0))]
def b59 (s : Stmt) : List SV := [(.v (.int .i64 s.kind)), (.v (.int .i64 s.tmp)), (.v (.int .i64 s.off)), (.v (.int .i64 s.n)), (.v (.int .i64 s.jump)), (.v (.int .u32 s.addr)), (.v (.int .u32 s.to_)), (.v (.int .i64 (0 : Int))), (.v (.int .i64 (0 : Int))), (.v (.int .u32 (0 : Int))), (.v (.int .u32 (0 : Int))), (.v (.int .u32 (0 : Int))), (.v (.int .u32 (0 : Int))), (.v (.int .i64 (0 : Int))), (.v (.int .i64 (0 : Int))), (.v (.int .i64 (0 : Int))), (.v (.int .i64 (0 : Int))), (.v (.slice none 0 0)), (.v (.slice none 0 0))]
theorem sz59 {k : K} (hP : k.P = Tryz.prog) : size? k 59 = some 19 := size_of hP size59'
theorem ldN {k : K} {t sz : Nat} (ha : agg? k t = some true) (hs : size? k t = some sz) {S : St} {b : Nat} {cs : List SV} (hg : S.get b = .cells cs) (hl : cs.length = sz) : loadE k t (.ptr b 0) S = some (.agg cs) := by
  simp only [loadE, ha, hs, Option.bind_some, hg, objCells, takeVal, List.drop_zero, if_true]
  rw [if_pos (by omega), ← hl, List.take_length]
theorem ag35' {k : K} (hP : k.P = Tryz.prog) : agg? k 35 = some false := by unfold agg?; rw [hP, Tryz.underlying35]
theorem sz35' {k : K} (hP : k.P = Tryz.prog) : size? k 35 = some 1 := size_of hP (by kernel_rfl)
/-- What is told of a statement's cells: a nil list may stand for an empty one. -/
theorem openAgg59d {Z : Type} {cs : List SV} {a : T59} (h : T59.dec cs = some a) (K : cd59.α → Option Z) : openAgg cd59 (.agg cs) K = K a := by
  show (T59.dec cs).bind K = K a
  rw [h]; rfl

set_option maxHeartbeats 2000000 in
theorem spec61 (s : Stmt) (w : Wt) (h1 : s.l.length ≤ 1000000) (h2 : s.e.l.length ≤ 1000000) (hw : w.length ≤ 1000000) {x : SV} (hx : weak (shut x) = sl wc w) (S : St) : run kt (.func 61 [] []) [.agg s.t57.enc, x] S = some (.tuple [.agg (tsc (stmtR s w).1), sl wc (stmtR s w).2], S) := by
  suffices ∃ cs S2, cBody (kt.at 61) h61 (run kt) 0 (compF Tryz.f61) [.agg s.t57.enc, sl wc w] St0 = some (.tuple [.agg cs, sl wc (stmtR s w).2], S2) ∧ eraseL S2 cs = tsc (stmtR s w).1 by
    obtain ⟨cs, S2, h1, h2⟩ := this
    have := go_closed ks_kt (f := 61) (fst := []) (cap := []) (args := [.agg s.t57.enc, x]) (S := S) h61 0 rfl (fn_kt 61 fn61) rfl (z := (.tuple [.agg cs, sl wc (stmtR s w).2], S2)) (by
      simp only [List.nil_append, List.append_nil, List.map_cons, List.map_nil, hx, stmt_ws]
      exact h1)
    rw [tup2_erase (x' := .agg (tsc (stmtR s w).1)) (by simp only [erase, h2]) (sl_erase cl_wc _ S2)] at this
    exact this
  have e0 := tell61 0 s.t57 w.length (w.flatMap wc)
  rw [show SV.sl none w.length (w.flatMap wc) = sl wc w from rfl] at e0
  rw [e0]
  clear e0
  have hS : ∃ S0, (St.put (St.alloc (St.alloc St0 (.cells z59)) (.cells z59)) 1 (.cells (b59 s))) = S0 ∧ S0.get 0 = .cells z59 ∧ S0.get 1 = .cells (b59 s) ∧ S0.floor = 0 := ⟨_, rfl, by simp [St.put, St.alloc, St0], by simp [St.put], rfl⟩
  obtain ⟨S0, e, g0, g1, f⟩ := hS
  rw [show (St.put (St.alloc (St.alloc St0 (.cells [(.v (.int .i64 (0 : Int))), (.v (.int .i64 (0 : Int))), (.v (.int .i64 (0 : Int))), (.v (.int .i64 (0 : Int))), (.v (.int .i64 (0 : Int))), (.v (.int .u32 (0 : Int))), (.v (.int .u32 (0 : Int))), (.v (.int .i64 (0 : Int))), (.v (.int .i64 (0 : Int))), (.v (.int .u32 (0 : Int))), (.v (.int .u32 (0 : Int))), (.v (.int .u32 (0 : Int))), (.v (.int .u32 (0 : Int))), (.v (.int .i64 (0 : Int))), (.v (.int .i64 (0 : Int))), (.v (.int .i64 (0 : Int))), (.v (.int .i64 (0 : Int))), (.v (.slice none 0 0)), (.v (.slice none 0 0))])) (.cells [(.v (.int .i64 (0 : Int))), (.v (.int .i64 (0 : Int))), (.v (.int .i64 (0 : Int))), (.v (.int .i64 (0 : Int))), (.v (.int .i64 (0 : Int))), (.v (.int .u32 (0 : Int))), (.v (.int .u32 (0 : Int))), (.v (.int .i64 (0 : Int))), (.v (.int .i64 (0 : Int))), (.v (.int .u32 (0 : Int))), (.v (.int .u32 (0 : Int))), (.v (.int .u32 (0 : Int))), (.v (.int .u32 (0 : Int))), (.v (.int .i64 (0 : Int))), (.v (.int .i64 (0 : Int))), (.v (.int .i64 (0 : Int))), (.v (.int .i64 (0 : Int))), (.v (.slice none 0 0)), (.v (.slice none 0 0))])) 1 (.cells [(.v (.int .i64 s.t57.kind)), (.v (.int .i64 s.t57.tmp)), (.v (.int .i64 s.t57.off)), (.v (.int .i64 s.t57.n)), (.v (.int .i64 s.t57.jump)), (.v (.int .u32 s.t57.addr)), (.v (.int .u32 s.t57.to_)), (.v (.int .i64 (0 : Int))), (.v (.int .i64 (0 : Int))), (.v (.int .u32 (0 : Int))), (.v (.int .u32 (0 : Int))), (.v (.int .u32 (0 : Int))), (.v (.int .u32 (0 : Int))), (.v (.int .i64 (0 : Int))), (.v (.int .i64 (0 : Int))), (.v (.int .i64 (0 : Int))), (.v (.int .i64 (0 : Int))), (.v (.slice none 0 0)), (.v (.slice none 0 0))])) = S0 from e]
  clear e
  rw [show s.t57.e_L = atoms s.e.l from rfl, show s.t57.l = atoms s.l from rfl, show s.t57.kind = s.kind from rfl]
  rw [spec64 s.e.l w h2 hw (atoms_ws _) (sl_wsC cl_wc w), spec64 s.l w h1 hw (atoms_ws _) (sl_wsC cl_wc w)]
  simp only [Option.bind_some, openTup, openHd_v, openNil]
  unfold stmtR
  by_cases hk : s.kind = 2
  · have hkb : (s.kind == 2) = true := by simpa using hk
    rw [hkb, splitB_t, if_pos hk, if_pos (show single (sl Tree.cells (takenR s.e.l w).1) = true from rfl)]
    rw [stN (sz37' (P_kt 61)) (by decide) g1 (by rw [f]; decide) rfl (by simp [b59])]
    generalize hT : sl Tree.cells (takenR s.e.l w).1 = T
    have hc1 : (S0.put 1 (.cells (splice (b59 s) 7 [(.v (.int .i64 (0 : Int))), (.v (.int .i64 (0 : Int))), (.v (.int .u32 (0 : Int))), (.v (.int .u32 (0 : Int))), (.v (.int .u32 (0 : Int))), (.v (.int .u32 (0 : Int))), (.v (.int .i64 s.t57.e_Kind)), (.v (.int .i64 s.t57.e_Ty)), (.v (.int .i64 s.t57.e_Op)), (.v (.int .i64 s.t57.e_Off)), T]))).get 1 = .cells (splice (b59 s) 7 [(.v (.int .i64 (0 : Int))), (.v (.int .i64 (0 : Int))), (.v (.int .u32 (0 : Int))), (.v (.int .u32 (0 : Int))), (.v (.int .u32 (0 : Int))), (.v (.int .u32 (0 : Int))), (.v (.int .i64 s.t57.e_Kind)), (.v (.int .i64 s.t57.e_Ty)), (.v (.int .i64 s.t57.e_Op)), (.v (.int .i64 s.t57.e_Off)), T]) := put_get _ _ _
    rw [ldN (agg_st (P_kt 61) Tryz.underlying59) (sz59 (P_kt 61)) hc1 rfl]
    simp only [Option.bind_some]
    rw [openAgg59d (a := ⟨s.kind, s.tmp, s.off, s.n, s.jump, s.addr, s.to_, 0, 0, 0, 0, 0, 0, s.e.kind, s.e.ty, s.e.op, s.e.off, T, .v (.slice none 0 0)⟩) rfl]
    rw [stN (sz59 (P_kt 61)) (by decide) (b := 0) (cs := z59) (by rw [get_put _ _ _ _ (by decide)]; exact g0) (by show S0.floor ≤ 0; omega) rfl (by simp [z59])]
    rw [ldN (agg_st (P_kt 61) Tryz.underlying59) (sz59 (P_kt 61)) (put_get _ _ _) rfl]
    simp only [Option.bind_some]
    refine ⟨_, _, rfl, ?_⟩
    subst hT
    have hE : ∀ S, erase S (sl Tree.cells (takenR s.e.l w).1) = sl Tree.cells (takenR s.e.l w).1 := sl_erase cl_tree _
    simp only [z59, splice, T59.enc, List.take_zero, List.nil_append, List.length_cons, List.length_nil, List.drop_succ_cons, List.drop_zero, Nat.zero_add, List.append_nil, eraseL, erase, weakV, hE]
    simp [tsc, T59.enc, TStmt.t59, bareT, nodeT, Tree.a, Tree.kind, Tree.ty, Tree.op, Tree.off, Tree.l, zA, sl]
  · have hkb : (s.kind == 2) = false := by simpa using hk
    rw [hkb, splitB_f, if_neg hk]
    generalize hT : sl Tree.cells (takenR s.l w).1 = T
    rw [st1 (sz35' (P_kt 61)) g1 (by rw [f]; decide) (by simp [b59]) (by subst hT; rfl)]
    rw [ldN (agg_st (P_kt 61) Tryz.underlying59) (sz59 (P_kt 61)) (put_get _ _ _) rfl]
    simp only [Option.bind_some]
    rw [openAgg59d (a := ⟨s.kind, s.tmp, s.off, s.n, s.jump, s.addr, s.to_, 0, 0, 0, 0, 0, 0, 0, 0, 0, 0, .v (.slice none 0 0), T⟩) rfl]
    rw [stN (sz59 (P_kt 61)) (by decide) (b := 0) (cs := z59) (by rw [get_put _ _ _ _ (by decide)]; exact g0) (by show S0.floor ≤ 0; omega) rfl (by simp [z59])]
    rw [ldN (agg_st (P_kt 61) Tryz.underlying59) (sz59 (P_kt 61)) (put_get _ _ _) rfl]
    simp only [Option.bind_some]
    refine ⟨_, _, rfl, ?_⟩
    subst hT
    have hE : ∀ S, erase S (sl Tree.cells (takenR s.l w).1) = sl Tree.cells (takenR s.l w).1 := sl_erase cl_tree _
    simp only [z59, splice, T59.enc, List.take_zero, List.nil_append, List.length_cons, List.length_nil, List.drop_succ_cons, List.drop_zero, Nat.zero_add, List.append_nil, eraseL, erase, weakV, hE]
    simp [tsc, T59.enc, TStmt.t59, bareT, zT, leafT, Tree.a, Tree.kind, Tree.ty, Tree.op, Tree.off, Tree.l, zA, sl]
end Go.Sv
end
section
namespace Go.Sv
open Go Go.Proofs
set_option linter.all false
set_option maxRecDepth 1000000
set_option maxHeartbeats 0
def h15 : H := { hh with live := fun b => match b with | 0 => [(5, 0), (6, 1)] | 2 => [(5, 0), (9, 1)] | _ => [], keep := fun b => match b with | 82 => some [(97, 2)] | _ => none }
theorem tell15 (N : Nat) (u0 : T31) : cBody (kt.at 15) h15 (run kt) N (compF Tryz.f15) [.agg u0.enc] St0 = (run kt (.func 23 [] []) [(.agg u0.enc)] (St.alloc St0 (.cells [(.v (.slice none 0 0)), (.v (.slice none 0 0)), (.v (.int .i64 (0 : Int))), (.v (.int .i64 (0 : Int))), (.v (.int .u32 (0 : Int))), (.v (.int .u32 (0 : Int))), (.v (.int .u32 (0 : Int))), (.v (.int .u32 (0 : Int))), (.v (.int .i64 (0 : Int))), (.v (.int .i64 (0 : Int))), (.v (.int .i64 (0 : Int))), (.v (.int .i64 (0 : Int))), (.v (.slice none 0 0)), (.v (.int .i64 (0 : Int))), (.v (.slice none 0 0))]))).bind fun p0 => openInt p0.1 fun a1 => (splitB (.v (.bool (a1 != (0 : Int))))
 (storeK (kt.at 15) 39 (.ptr 0 0) (.agg [(.v (.slice none 0 0)), (.v (.slice none 0 0)), (.v (.int .i64 (0 : Int))), (.v (.int .i64 (0 : Int))), (.v (.int .u32 (0 : Int))), (.v (.int .u32 (0 : Int))), (.v (.int .u32 (0 : Int))), (.v (.int .u32 (0 : Int))), (.v (.int .i64 (0 : Int))), (.v (.int .i64 (0 : Int))), (.v (.int .i64 (0 : Int))), (.v (.int .i64 (0 : Int))), (.v (.slice none 0 0)), (.v (.int .i64 (0 : Int))), (.v (.slice none 0 0))]) p0.2 fun S2 => (loadE (kt.at 15) 39 (.ptr 0 0) S2).bind fun r3 => (some ((.tuple [r3, (.v (.int .i64 (7 : Int)))]), S2)))
 (((appendE (kt.at 15) 22 .emp (shut u0.tmps) St0).map fun r => erase r.2 r.1).bind fun r4 => ((appendE (kt.at 15) 29 .emp (shut u0.spans) St0).map fun r => erase r.2 r.1).bind fun r5 => (if single r4 = true then (if single r5 = true then storeK (kt.at 15) 39 (.ptr (St.next p0.2) 0) (.agg [r4, (.v (.slice none 0 0)), (.v (.int .i64 (0 : Int))), (.v (.int .i64 (0 : Int))), (.v (.int .u32 (0 : Int))), (.v (.int .u32 (0 : Int))), (.v (.int .u32 (0 : Int))), (.v (.int .u32 (0 : Int))), (.v (.int .i64 (0 : Int))), (.v (.int .i64 (0 : Int))), (.v (.int .i64 (0 : Int))), (.v (.int .i64 (0 : Int))), (.v (.slice none 0 0)), (.v (.int .i64 u0.jump)), r5]) (St.alloc p0.2 (.cells [(.v (.slice none 0 0)), (.v (.slice none 0 0)), (.v (.int .i64 (0 : Int))), (.v (.int .i64 (0 : Int))), (.v (.int .u32 (0 : Int))), (.v (.int .u32 (0 : Int))), (.v (.int .u32 (0 : Int))), (.v (.int .u32 (0 : Int))), (.v (.int .i64 (0 : Int))), (.v (.int .i64 (0 : Int))), (.v (.int .i64 (0 : Int))), (.v (.int .i64 (0 : Int))), (.v (.slice none 0 0)), (.v (.int .i64 (0 : Int))), (.v (.slice none 0 0))])) fun S6 => (if (St.next p0.2) ≤ (St.next S6) then (iter (fun vs7 S8 => openHd vs7 fun y9 r10 => openHd r10 fun y11 r12 => openInt y11 fun a13 => (lenE (kt.at 15) 23 u0.l).bind fun r14 => openInt r14 fun a15 => (splitB (.v (.bool (decide (a13 < a15))))
 ((indexAddrE (kt.at 15) 23 u0.l (.v (.int .i64 a13))).bind fun r16 => openCp cd57 r16 fun t17 => (run kt (.func 61 [] []) [(.agg t17.enc), y9] S8).bind fun p18 => openTup p18.1 fun l19 => openHd l19 fun y20 r21 => openAgg cd59 y20 fun t22 => openHd r21 fun y23 r24 => openNil r24 (storeK (kt.at 15) 59 (.ptr (St.next p18.2) 0) (.agg t22.enc) (St.alloc p18.2 (.cells [(.v (.int .i64 (0 : Int))), (.v (.int .i64 (0 : Int))), (.v (.int .i64 (0 : Int))), (.v (.int .i64 (0 : Int))), (.v (.int .i64 (0 : Int))), (.v (.int .u32 (0 : Int))), (.v (.int .u32 (0 : Int))), (.v (.int .i64 (0 : Int))), (.v (.int .i64 (0 : Int))), (.v (.int .u32 (0 : Int))), (.v (.int .u32 (0 : Int))), (.v (.int .u32 (0 : Int))), (.v (.int .u32 (0 : Int))), (.v (.int .i64 (0 : Int))), (.v (.int .i64 (0 : Int))), (.v (.int .i64 (0 : Int))), (.v (.int .i64 (0 : Int))), (.v (.slice none 0 0)), (.v (.slice none 0 0))])) fun S25 => (iter (fun vs26 S27 => openHd vs26 fun y28 r29 => openHd r29 fun y30 r31 => openInt y30 fun a32 => (lenE (kt.at 15) 99 y23).bind fun r33 => openInt r33 fun a34 => (splitB (.v (.bool (decide (a32 < a34))))
 ((if (St.next p18.2) < (St.next S27) then (loadE (kt.at 15) 59 (.ptr (St.next p18.2) 0) S27).bind fun r35 => openAgg cd59 r35 fun t36 => (indexAddrE (kt.at 15) 99 y23 (.v (.int .i64 a32))).bind fun r37 => openCp cd104 r37 fun t38 => (run kt (.func 62 [] []) [u0.tmps, (.agg t36.enc), (.agg [(.v (.int .i64 t38.t_A_Tmp)), (.v (.int .i64 t38.t_A_Ty)), (.v (.int .u32 t38.t_A_C0)), (.v (.int .u32 t38.t_A_C1)), (.v (.int .u32 t38.t_A_C2)), (.v (.int .u32 t38.t_A_C3)), (.v (.int .i64 t38.t_Kind)), (.v (.int .i64 t38.t_Ty)), (.v (.int .i64 t38.t_Op)), (.v (.int .i64 t38.t_Off)), t38.t_L])] S27).bind fun p39 => openBool p39.1 fun b40 => (splitB (.v (.bool b40))
 ((if (St.next p0.2) < (St.next p39.2) then (loadE (kt.at 15) 34 (.ptr (St.next p0.2) 1) p39.2).bind fun r41 => (indexAddrE (kt.at 15) 99 y23 (.v (.int .i64 a32))).bind fun r42 => openCp cd104 r42 fun t43 => (indexAddrE (kt.at 15) 99 y23 (.v (.int .i64 a32))).bind fun r44 => openCp cd104 r44 fun t45 => (appendE (kt.at 15) 34 r41 (.sl (some (St.next p39.2)) 1 [(.v (.int .i64 (2 : Int))), (.v (.int .i64 t43.tmp)), (.v (.int .i64 (0 : Int))), (.v (.int .i64 (0 : Int))), (.v (.int .i64 (0 : Int))), (.v (.int .u32 (0 : Int))), (.v (.int .u32 (0 : Int))), (.v (.int .i64 t45.t_A_Tmp)), (.v (.int .i64 t45.t_A_Ty)), (.v (.int .u32 t45.t_A_C0)), (.v (.int .u32 t45.t_A_C1)), (.v (.int .u32 t45.t_A_C2)), (.v (.int .u32 t45.t_A_C3)), (.v (.int .i64 t45.t_Kind)), (.v (.int .i64 t45.t_Ty)), (.v (.int .i64 t45.t_Op)), (.v (.int .i64 t45.t_Off)), t45.t_L, (.v (.slice none 0 0))]) (St.alloc p39.2 (.own 19 19))).bind fun p46 => storeK (kt.at 15) 34 (.ptr (St.next p0.2) 1) p46.1 p46.2 fun S47 => (if (St.next p39.2) ≤ (St.next S47) then (some (.normal, ([y28, (.v (.int .i64 (IntKind.wrap .i64 (a32 + (1 : Int)))))], S47))) else none) else none))
 ((indexAddrE (kt.at 15) 99 y23 (.v (.int .i64 a32))).bind fun r48 => openCp cd104 r48 fun t49 => (appendE (kt.at 15) 99 y28 (.sl (some (St.next p39.2)) 1 t49.enc) (St.alloc p39.2 (.own 12 12))).bind fun p50 => (some (.normal, ([p50.1, (.v (.int .i64 (IntKind.wrap .i64 (a32 + (1 : Int)))))], p50.2))))) else none))
 ((some ((.exit 2), ([y28, (.v (.int .i64 a32))], S27)))))) N [(.v (.slice none 0 0)), (.v (.int .i64 (0 : Int)))] S25).bind fun q51 => openHd q51.2.1 fun y52 r53 => openHd r53 fun y54 r55 => openInt y54 fun a56 => (exits q51.1 (fun i57 => (if i57 = 2 then ((loadE (kt.at 15) 3 (.ptr (St.next p18.2) 0) q51.2.2).bind fun r58 => openInt r58 fun a59 => (splitB (.v (.bool (a59 == (2 : Int))))
 ((loadE (kt.at 15) 3 (.ptr (St.next p18.2) 13) q51.2.2).bind fun r60 => openInt r60 fun a61 => (splitB (.v (.bool (a61 != (1 : Int))))
 ((loadE (kt.at 15) 3 (.ptr (St.next p18.2) 1) q51.2.2).bind fun r62 => openInt r62 fun a63 => (run kt (.func 63 [] []) [(.agg u0.enc), (.v (.int .i64 a63))] q51.2.2).bind fun p64 => openInt p64.1 fun a65 => (some [(.v (.bool (a65 == (1 : Int))))]))
 ((some [(.v (.bool false))]))))
 ((some [(.v (.bool false))])))).bind fun vs66 => openHd vs66 fun y67 r68 => openBool y67 fun b69 => (splitB (.v (.bool b69))
 ((loadE (kt.at 15) 3 (.ptr (St.next p18.2) 1) q51.2.2).bind fun r70 => openInt r70 fun a71 => (loadE (kt.at 15) 37 (.ptr (St.next p18.2) 7) q51.2.2).bind fun r72 => openAgg cd37 r72 fun t73 => (appendE (kt.at 15) 99 y52 (.sl (some (St.next q51.2.2)) 1 [(.v (.int .i64 a71)), (.v (.int .i64 t73.a_Tmp)), (.v (.int .i64 t73.a_Ty)), (.v (.int .u32 t73.a_C0)), (.v (.int .u32 t73.a_C1)), (.v (.int .u32 t73.a_C2)), (.v (.int .u32 t73.a_C3)), (.v (.int .i64 t73.kind)), (.v (.int .i64 t73.ty)), (.v (.int .i64 t73.op)), (.v (.int .i64 t73.off)), t73.l]) (St.alloc q51.2.2 (.own 12 12))).bind fun p74 => (some (.normal, ([p74.1, (.v (.int .i64 (IntKind.wrap .i64 (a13 + (1 : Int)))))], p74.2))))
 ((loadE (kt.at 15) 34 (.ptr (St.next p0.2) 1) q51.2.2).bind fun r75 => (loadE (kt.at 15) 59 (.ptr (St.next p18.2) 0) q51.2.2).bind fun r76 => openAgg cd59 r76 fun t77 => (appendE (kt.at 15) 34 r75 (.sl (some (St.next q51.2.2)) 1 t77.enc) (St.alloc q51.2.2 (.own 19 19))).bind fun p78 => storeK (kt.at 15) 34 (.ptr (St.next p0.2) 1) p78.1 p78.2 fun S79 => (some (.normal, ([y52, (.v (.int .i64 (IntKind.wrap .i64 (a13 + (1 : Int)))))], S79))))) else (if i57 = 1 then (some (.normal, ([y52, (.v (.int .i64 (IntKind.wrap .i64 (a13 + (1 : Int)))))], q51.2.2))) else (some ((.exit i57), ([y52, (.v (.int .i64 a13))], q51.2.2)))))) ((some (.ret, ([y52, (.v (.int .i64 a13))], q51.2.2)))))))
 ((some ((.exit 0), ([y9, (.v (.int .i64 a13))], S8)))))) N [(.v (.slice none 0 0)), (.v (.int .i64 (0 : Int)))] S6).bind fun q80 => openHd q80.2.1 fun y81 r82 => openHd r82 fun y83 r84 => openInt y83 fun a85 => (exits q80.1 (fun i86 => (if i86 = 0 then (run kt (.func 64 [] []) [(.sl (some (St.next q80.2.2)) 1 [(.v (.int .i64 u0.next_Tmp)), (.v (.int .i64 u0.next_Ty)), (.v (.int .u32 u0.next_C0)), (.v (.int .u32 u0.next_C1)), (.v (.int .u32 u0.next_C2)), (.v (.int .u32 u0.next_C3))]), y81] (St.alloc q80.2.2 (.own 6 6))).bind fun p87 => openTup p87.1 fun l88 => openHd l88 fun y89 r90 => openHd r90 fun y91 r92 => openNil r92 ((indexAddrE (kt.at 15) 35 y89 (.v (.int .i64 (0 : Int)))).bind fun r93 => openCp cd37 r93 fun t94 => storeK (kt.at 15) 37 (.ptr (St.next p0.2) 2) (.agg t94.enc) p87.2 fun S95 => (loadE (kt.at 15) 39 (.ptr (St.next p0.2) 0) S95).bind fun r96 => openAgg cd39 r96 fun t97 => storeK (kt.at 15) 39 (.ptr 0 0) (.agg t97.enc) S95 fun S98 => (loadE (kt.at 15) 39 (.ptr 0 0) S98).bind fun r99 => (some ((.tuple [r99, (.v (.int .i64 (0 : Int)))]), S98))) else none)) ((loadE (kt.at 15) 39 (.ptr 0 0) q80.2.2).bind fun r100 => (some ((.tuple [r100, (.v (.int .i64 (0 : Int)))]), q80.2.2)))) else none) else none) else none))) := by kernel_rfl
theorem fn15 : fnsK 15 = some (compF Tryz.f15) := by kernel_rfl
def h16 : H := { hh with live := fun b => match b with | 0 => [(4, 2), (5, 1)] | 2 => [(4, 2), (6, 1)] | 4 => [(4, 2), (7, 1)] | _ => [], keep := fun b => match b with | 8 => some [(47, 2)] | _ => none }
theorem tell16 (N : Nat) (u0 : T39) (u1 : T39) : cBody (kt.at 16) h16 (run kt) N (compF Tryz.f16) [.agg u0.enc, .agg u1.enc] St0 = ((lenE (kt.at 16) 22 u0.tmps).bind fun r0 => openInt r0 fun a1 => (lenE (kt.at 16) 22 u1.tmps).bind fun r2 => openInt r2 fun a3 => (splitB (.v (.bool (a1 != a3)))
 ((some [(.v (.bool true))]))
 ((lenE (kt.at 16) 34 u0.l).bind fun r4 => openInt r4 fun a5 => (lenE (kt.at 16) 34 u1.l).bind fun r6 => openInt r6 fun a7 => (splitB (.v (.bool (a5 != a7)))
 ((some [(.v (.bool true))]))
 ((lenE (kt.at 16) 29 u0.spans).bind fun r8 => openInt r8 fun a9 => (lenE (kt.at 16) 29 u1.spans).bind fun r10 => openInt r10 fun a11 => (splitB (.v (.bool (a9 != a11)))
 ((some [(.v (.bool true))]))
 ((splitB (.v (.bool (u0.jump != u1.jump)))
 ((some [(.v (.bool true))]))
 ((run kt (.func 40 [] []) [(.agg [(.v (.int .i64 u0.next_A_Tmp)), (.v (.int .i64 u0.next_A_Ty)), (.v (.int .u32 u0.next_A_C0)), (.v (.int .u32 u0.next_A_C1)), (.v (.int .u32 u0.next_A_C2)), (.v (.int .u32 u0.next_A_C3)), (.v (.int .i64 u0.next_Kind)), (.v (.int .i64 u0.next_Ty)), (.v (.int .i64 u0.next_Op)), (.v (.int .i64 u0.next_Off)), u0.next_L]), (.agg [(.v (.int .i64 u1.next_A_Tmp)), (.v (.int .i64 u1.next_A_Ty)), (.v (.int .u32 u1.next_A_C0)), (.v (.int .u32 u1.next_A_C1)), (.v (.int .u32 u1.next_A_C2)), (.v (.int .u32 u1.next_A_C3)), (.v (.int .i64 u1.next_Kind)), (.v (.int .i64 u1.next_Ty)), (.v (.int .i64 u1.next_Op)), (.v (.int .i64 u1.next_Off)), u1.next_L])] St0).bind fun p12 => openBool p12.1 fun b13 => (some [(.v (.bool (!b13)))])))))))))).bind fun vs14 => openHd vs14 fun y15 r16 => openBool y15 fun b17 => (splitB (.v (.bool b17))
 ((some ((.v (.bool false)), St0)))
 ((iter (fun vs18 S19 => openHd vs18 fun y20 r21 => openBool y20 fun b22 => openHd r21 fun y23 r24 => openInt y23 fun a25 => (lenE (kt.at 16) 22 u0.tmps).bind fun r26 => openInt r26 fun a27 => (splitB (.v (.bool (decide (a25 < a27))))
 ((indexAddrE (kt.at 16) 22 u0.tmps (.v (.int .i64 a25))).bind fun r28 => loadK (kt.at 16) (St.next S19) 3 r28 S19 fun r29 => openInt r29 fun a30 => (indexAddrE (kt.at 16) 22 u1.tmps (.v (.int .i64 a25))).bind fun r31 => loadK (kt.at 16) (St.next S19) 3 r31 S19 fun r32 => openInt r32 fun a33 => (splitB (.v (.bool (a30 != a33)))
 ((some (.ret, ([(.v (.bool false)), (.v (.int .i64 a25))], S19))))
 ((some (.normal, ([(.v (.bool b22)), (.v (.int .i64 (IntKind.wrap .i64 (a25 + (1 : Int)))))], S19))))))
 ((some ((.exit 0), ([(.v (.bool b22)), (.v (.int .i64 a25))], S19)))))) N [(.v (.bool false)), (.v (.int .i64 (0 : Int)))] St0).bind fun q34 => openHd q34.2.1 fun y35 r36 => openBool y35 fun b37 => openHd r36 fun y38 r39 => openInt y38 fun a40 => (exits q34.1 (fun i41 => (if i41 = 0 then (iter (fun vs42 S43 => openHd vs42 fun y44 r45 => openBool y44 fun b46 => openHd r45 fun y47 r48 => openInt y47 fun a49 => (lenE (kt.at 16) 34 u0.l).bind fun r50 => openInt r50 fun a51 => (splitB (.v (.bool (decide (a49 < a51))))
 ((indexAddrE (kt.at 16) 34 u0.l (.v (.int .i64 a49))).bind fun r52 => openCp cd59 r52 fun t53 => (indexAddrE (kt.at 16) 34 u1.l (.v (.int .i64 a49))).bind fun r54 => openCp cd59 r54 fun t55 => (run kt (.func 42 [] []) [(.agg t53.enc), (.agg t55.enc)] S43).bind fun p56 => openBool p56.1 fun b57 => (splitB (.v (.bool (!b57)))
 ((some (.ret, ([(.v (.bool false)), (.v (.int .i64 a49))], p56.2))))
 ((some (.normal, ([(.v (.bool b46)), (.v (.int .i64 (IntKind.wrap .i64 (a49 + (1 : Int)))))], p56.2))))))
 ((some ((.exit 2), ([(.v (.bool b46)), (.v (.int .i64 a49))], S43)))))) N [(.v (.bool b37)), (.v (.int .i64 (0 : Int)))] q34.2.2).bind fun q58 => openHd q58.2.1 fun y59 r60 => openBool y59 fun b61 => openHd r60 fun y62 r63 => openInt y62 fun a64 => (exits q58.1 (fun i65 => (if i65 = 2 then (iter (fun vs66 S67 => openHd vs66 fun y68 r69 => openBool y68 fun b70 => openHd r69 fun y71 r72 => openInt y71 fun a73 => (lenE (kt.at 16) 29 u0.spans).bind fun r74 => openInt r74 fun a75 => (splitB (.v (.bool (decide (a73 < a75))))
 ((indexAddrE (kt.at 16) 29 u0.spans (.v (.int .i64 a73))).bind fun r76 => openCp cd108 r76 fun t77 => (indexAddrE (kt.at 16) 29 u1.spans (.v (.int .i64 a73))).bind fun r78 => openCp cd108 r78 fun t79 => (splitB (.v (.bool (!((t77.at_ == t79.at_) && ((t77.n == t79.n) && true)))))
 ((some (.ret, ([(.v (.bool false)), (.v (.int .i64 a73))], S67))))
 ((some (.normal, ([(.v (.bool b70)), (.v (.int .i64 (IntKind.wrap .i64 (a73 + (1 : Int)))))], S67))))))
 ((some ((.exit 4), ([(.v (.bool b70)), (.v (.int .i64 a73))], S67)))))) N [(.v (.bool b61)), (.v (.int .i64 (0 : Int)))] q58.2.2).bind fun q80 => openHd q80.2.1 fun y81 r82 => openBool y81 fun b83 => openHd r82 fun y84 r85 => openInt y84 fun a86 => (exits q80.1 (fun i87 => (if i87 = 4 then (some ((.v (.bool true)), q80.2.2)) else none)) ((some ((.v (.bool b83)), q80.2.2)))) else none)) ((some ((.v (.bool b61)), q58.2.2)))) else none)) ((some ((.v (.bool b37)), q34.2.2)))))) := by kernel_rfl
theorem fn16 : fnsK 16 = some (compF Tryz.f16) := by kernel_rfl
def h40 : H := { hh with live := fun b => match b with  | _ => [], keep := fun b => match b with | 5 => some [(4, 2)] | _ => none }
theorem tell40 (N : Nat) (u0 : T37) (u1 : T37) : cBody (kt.at 40) h40 (run kt) N (compF Tryz.f40) [.agg u0.enc, .agg u1.enc] St0 = ((splitB (.v (.bool ((u0.a_Tmp == u1.a_Tmp) && ((u0.a_Ty == u1.a_Ty) && ((u0.a_C0 == u1.a_C0) && ((u0.a_C1 == u1.a_C1) && ((u0.a_C2 == u1.a_C2) && ((u0.a_C3 == u1.a_C3) && true))))))))
 ((splitB (.v (.bool (u0.kind == u1.kind)))
 ((splitB (.v (.bool (u0.ty == u1.ty)))
 ((splitB (.v (.bool (u0.op == u1.op)))
 ((splitB (.v (.bool (u0.off == u1.off)))
 ((run kt (.func 96 [] []) [u0.l, u1.l] St0).bind fun p0 => openBool p0.1 fun b1 => (some [(.v (.bool b1))]))
 ((some [(.v (.bool false))]))))
 ((some [(.v (.bool false))]))))
 ((some [(.v (.bool false))]))))
 ((some [(.v (.bool false))]))))
 ((some [(.v (.bool false))])))).bind fun vs2 => openHd vs2 fun y3 r4 => openBool y3 fun b5 => (some ((.v (.bool b5)), St0)) := by kernel_rfl
theorem fn40 : fnsK 40 = some (compF Tryz.f40) := by kernel_rfl
def h96 : H := { hh with live := fun b => match b with | 0 => [(4, 2), (5, 1)] | _ => [], keep := fun b => match b with  | _ => none }
theorem tell96 (N : Nat) (n0 : Nat) (k0 : List SV) (n1 : Nat) (k1 : List SV) : cBody (kt.at 96) h96 (run kt) N (compF Tryz.f96) [.sl none n0 k0, .sl none n1 k1] St0 = (splitB (.v (.bool (((n0 : Nat) : Int) != ((n1 : Nat) : Int))))
 ((some ((.v (.bool false)), St0)))
 ((iter (fun vs0 S1 => openHd vs0 fun y2 r3 => openBool y2 fun b4 => openHd r3 fun y5 r6 => openInt y5 fun a7 => (splitB (.v (.bool (decide (a7 < ((n0 : Nat) : Int)))))
 ((indexAddrE (kt.at 96) 35 (.sl none n0 k0) (.v (.int .i64 a7))).bind fun r8 => openCp cd37 r8 fun t9 => (indexAddrE (kt.at 96) 35 (.sl none n1 k1) (.v (.int .i64 a7))).bind fun r10 => openCp cd37 r10 fun t11 => (run kt (.func 40 [] []) [(.agg t9.enc), (.agg t11.enc)] S1).bind fun p12 => openBool p12.1 fun b13 => (splitB (.v (.bool (!b13)))
 ((some (.ret, ([(.v (.bool false)), (.v (.int .i64 a7))], p12.2))))
 ((some (.normal, ([(.v (.bool b4)), (.v (.int .i64 (IntKind.wrap .i64 (a7 + (1 : Int)))))], p12.2))))))
 ((some ((.exit 0), ([(.v (.bool b4)), (.v (.int .i64 a7))], S1)))))) N [(.v (.bool false)), (.v (.int .i64 (0 : Int)))] St0).bind fun q14 => openHd q14.2.1 fun y15 r16 => openBool y15 fun b17 => openHd r16 fun y18 r19 => openInt y18 fun a20 => (exits q14.1 (fun i21 => (if i21 = 0 then (some ((.v (.bool true)), q14.2.2)) else none)) ((some ((.v (.bool b17)), q14.2.2)))))) := by kernel_rfl
theorem fn96 : fnsK 96 = some (compF Tryz.f96) := by kernel_rfl
def h42 : H := { hh with live := fun b => match b with  | _ => [], keep := fun b => match b with | 5 => some [(4, 2)] | _ => none }
theorem tell42 (N : Nat) (u0 : T59) (u1 : T59) : cBody (kt.at 42) h42 (run kt) N (compF Tryz.f42) [.agg u0.enc, .agg u1.enc] St0 = ((splitB (.v (.bool (u0.kind == u1.kind)))
 ((splitB (.v (.bool (u0.tmp == u1.tmp)))
 ((splitB (.v (.bool (u0.off == u1.off)))
 ((splitB (.v (.bool (u0.n == u1.n)))
 ((splitB (.v (.bool (u0.jump == u1.jump)))
 ((splitB (.v (.bool (u0.addr == u1.addr)))
 ((splitB (.v (.bool (u0.to_ == u1.to_)))
 ((run kt (.func 40 [] []) [(.agg [(.v (.int .i64 u0.e_A_Tmp)), (.v (.int .i64 u0.e_A_Ty)), (.v (.int .u32 u0.e_A_C0)), (.v (.int .u32 u0.e_A_C1)), (.v (.int .u32 u0.e_A_C2)), (.v (.int .u32 u0.e_A_C3)), (.v (.int .i64 u0.e_Kind)), (.v (.int .i64 u0.e_Ty)), (.v (.int .i64 u0.e_Op)), (.v (.int .i64 u0.e_Off)), u0.e_L]), (.agg [(.v (.int .i64 u1.e_A_Tmp)), (.v (.int .i64 u1.e_A_Ty)), (.v (.int .u32 u1.e_A_C0)), (.v (.int .u32 u1.e_A_C1)), (.v (.int .u32 u1.e_A_C2)), (.v (.int .u32 u1.e_A_C3)), (.v (.int .i64 u1.e_Kind)), (.v (.int .i64 u1.e_Ty)), (.v (.int .i64 u1.e_Op)), (.v (.int .i64 u1.e_Off)), u1.e_L])] St0).bind fun p0 => openBool p0.1 fun b1 => (splitB (.v (.bool b1))
 ((run kt (.func 96 [] []) [u0.l, u1.l] p0.2).bind fun p2 => openBool p2.1 fun b3 => (some [(.v (.bool b3))]))
 ((some [(.v (.bool false))]))))
 ((some [(.v (.bool false))]))))
 ((some [(.v (.bool false))]))))
 ((some [(.v (.bool false))]))))
 ((some [(.v (.bool false))]))))
 ((some [(.v (.bool false))]))))
 ((some [(.v (.bool false))]))))
 ((some [(.v (.bool false))])))).bind fun vs4 => openHd vs4 fun y5 r6 => openBool y5 fun b7 => (some ((.v (.bool b7)), St0)) := by kernel_rfl
theorem fn42 : fnsK 42 = some (compF Tryz.f42) := by kernel_rfl
end Go.Sv
end
