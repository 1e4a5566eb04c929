/- Parts of the proofs of this seat's laws. -/
import Derived.Test.YtkflapebfmcmaaaGreatBOnce47
import Derived.Test.YtkflapebfmcmaaaGreatBOnce27
import Derived.Test.YtkflapebfmcmaaaGreatBOnce32
import Derived.Test.YtkflapebfmcmaaaGreatBOnce23
section
namespace Go.Sv
open Go Go.Proofs Go.Proofs.YtkflapebfmcmaaaGreat
set_option linter.all false
set_option maxRecDepth 100000

theorem tscY_e (q : TStmt × SV) : (((tscY q).drop 7).take 11) = q.1.e.cells := by rw [cells_eq]; rfl

set_option maxHeartbeats 4000000 in
/-- The statements are built. -/
theorem loopB (b : Block) (hn : b.l.length ≤ 2000) (hB : bndB b) (hv : ∀ s ∈ b.l, validM b.tmps s = true) {tm sp : SV} (htm : weak (shut tm) = nums b.tmps) {j : Int} {cb lo : Nat} {dA : List Atom} (hdA : ∀ t, ((cntA dA t : Nat) : Int) = usesM b t) {S : St} (h : CI tm sp j cb lo [] [] dA S) :
    ∃ S', iter (F14b cb b.t31 (b.l.length : Int)) 1000000 [.v (.int .i64 (0 : Int))] S = some (.exit 4, [.v (.int .i64 (b.l.length : Int))], S') ∧ CI tm sp j cb lo (stP b b.l).1 (stP b b.l).2 dA S' := by
  obtain ⟨bs, hbs, bs0, bs1⟩ := bytes14s
  obtain ⟨bw, hbw, bw0, bw1⟩ := bytes14w
  obtain ⟨zs, hzs, zsl⟩ := zero14s
  obtain ⟨zw, hzw, zwl⟩ := zero14w
  obtain ⟨vs, S', h1, rfl, h2⟩ := iter_inv 4 (F := F14b cb b.t31 (b.l.length : Int)) b.l.length
    (fun i vs S' => vs = [.v (.int .i64 (i : Int))] ∧ CI tm sp j cb lo (stP b (b.l.take i)).1 (stP b (b.l.take i)).2 dA S')
    (fun i hi vs S' hI => by
      obtain ⟨rfl, h⟩ := hI
      suffices ∃ T, F14b cb b.t31 (b.l.length : Int) [.v (.int .i64 (i : Int))] S' = some (.normal, [.v (.int .i64 ((i : Int) + 1))], T) ∧ CI tm sp j cb lo (stP b (b.l.take (i + 1))).1 (stP b (b.l.take (i + 1))).2 dA T by
        obtain ⟨T, e, c⟩ := this
        exact ⟨_, T, e, rfl, c⟩
      have hlt : ((i : Nat) : Int) < ((b.l.length : Nat) : Int) := by omega
      have hfl : S'.floor ≤ S'.next := by rw [h.bs.fl]; omega
      obtain ⟨⟨hb1, hb2⟩, hb3, hb4⟩ := hB b.l[i] (List.getElem_mem hi)
      have hvi := hv b.l[i] (List.getElem_mem hi)
      obtain ⟨bd1, bd2⟩ := stP_bnd b hB i (by omega)
      rw [List.take_succ_eq_append_getElem hi, stP_snoc]
      unfold F14b
      simp only [openHd_v, openInt_v, splitB_dec]
      rw [if_pos hlt, show b.t31.l = stmts b.l from rfl, index_stmts (P_kt 14) .i64 b.l i hi]
      generalize b.l[i] = s at hb1 hb2 hb3 hb4 hvi
      generalize stP b (b.l.take i) = c at h bd1 bd2
      simp only [Option.bind_some, openCp57']
      rw [store_box (sz57 (P_kt 14)) (by decide) hfl rfl rfl, load_box (agg_st (P_kt 14) Tryz.underlying57) (sz57 (P_kt 14)) rfl]
      simp only [Option.bind_some, openAgg57']
      generalize hz : (SObj.cells [(.v (.int .i64 (0 : Int))), (.v (.int .i64 (0 : Int))), (.v (.int .i64 (0 : Int))), (.v (.int .i64 (0 : Int))), (.v (.int .i64 (0 : Int))), (.v (.int .u32 (0 : Int))), (.v (.int .u32 (0 : Int))), (.v (.int .i64 (0 : Int))), (.v (.int .i64 (0 : Int))), (.v (.int .i64 (0 : Int))), (.v (.int .i64 (0 : Int))), (.v (.slice none 0 0)), (.v (.slice none 0 0))]) = zz
      have h1 := h.box zz (.cells s.t57.enc)
      have gx := boxed_self S' zz (.cells s.t57.enc)
      have nx : (boxed S' zz (.cells s.t57.enc)).next = S'.next + 1 := rfl
      generalize boxed S' zz (.cells s.t57.enc) = T1 at h1 gx nx
      have hxlo := h.bs.lon
      have hcb3 := h.cb3
      have hcbl := h.cbl
      clear hz zz h hfl
      generalize S'.next = xb at gx nx hxlo
      have l87 : ∀ T : St, T.get cb = .cells [.ptr 3 0] → loadE (kt.at 14) 87 (.ptr cb 0) T = some (.ptr 3 0) := fun T h => by rw [ld1 (ag87 (P_kt 14)) (sz87 (P_kt 14)) h]; rfl
      rw [l87 T1 h1.gc, Option.bind_some]
      obtain ⟨yl, T2, r1, r2, r3, r4⟩ := spec58 s (by omega) (by omega) h1.bs (by omega)
      rw [r1]
      simp only [Option.bind_some, openAggY]
      have h2 := h1.step r3 r4
      have gx2 := r4.cells (by omega) (by omega) gx
      have nx2 : xb < T2.next := Nat.lt_of_lt_of_le (by omega) r4.nx
      obtain ⟨m1, m2, m3, m4, m5, m6, m7⟩ := madeP_TG (s := s) (by omega) (by omega) hb3 hb4 bd2
      have hx : GS (madeP s c.2).1 yl := ⟨m1, m2, by omega, r2, fun h3 => by
        have := valid_put hvi (by rw [← m6]; exact h3)
        intro e
        rw [e] at m3
        simp at m3
        omega⟩
      have hstep : stepB (fun x t => anyN (distT b.tmps x) t) madeP (usesM b) c s = if s.kind = 2 ∧ usesM b s.tmp = 1 ∧ s.e.kind ≠ 1 then (c.1 ++ ((madeP s c.2).2.filter fun p => anyN (distT b.tmps (madeP s c.2).1) p.2).map setT, ((madeP s c.2).2.filter fun p => !anyN (distT b.tmps (madeP s c.2).1) p.2) ++ [(s.tmp, (madeP s c.2).1.e)]) else (c.1 ++ ((madeP s c.2).2.filter fun p => anyN (distT b.tmps (madeP s c.2).1) p.2).map setT ++ [(madeP s c.2).1], (madeP s c.2).2.filter fun p => !anyN (distT b.tmps (madeP s c.2).1) p.2) := rfl
      rw [hstep]
      clear hstep r1 r3 r4 h1 gx nx m1 m2 m3 T1
      generalize (madeP s c.2).1 = x at hx r2 m6 m7
      generalize (madeP s c.2).2 = w1 at h2 m4 m5
      rw [show T59.enc (rawT x yl) = tscY (x, yl) from rfl]
      rw [show (T2.alloc (.cells [(.v (.int .i64 (0 : Int))), (.v (.int .i64 (0 : Int))), (.v (.int .i64 (0 : Int))), (.v (.int .i64 (0 : Int))), (.v (.int .i64 (0 : Int))), (.v (.int .u32 (0 : Int))), (.v (.int .u32 (0 : Int))), (.v (.int .i64 (0 : Int))), (.v (.int .i64 (0 : Int))), (.v (.int .u32 (0 : Int))), (.v (.int .u32 (0 : Int))), (.v (.int .u32 (0 : Int))), (.v (.int .u32 (0 : Int))), (.v (.int .i64 (0 : Int))), (.v (.int .i64 (0 : Int))), (.v (.int .i64 (0 : Int))), (.v (.int .i64 (0 : Int))), (.v (.slice none 0 0)), (.v (.slice none 0 0))])) = T2.alloc (.cells z59) from rfl]
      rw [store_box (sz59 (P_kt 14)) (by decide) (by rw [h2.bs.fl]; omega) rfl (tscY_len _)]
      have h3 := h2.box (.cells z59) (.cells (tscY (x, yl)))
      have gy := boxed_self T2 (.cells z59) (.cells (tscY (x, yl)))
      have gx3 : (boxed T2 (.cells z59) (.cells (tscY (x, yl)))).get xb = .cells s.t57.enc := by rw [boxed_get _ _ _ _ nx2]; exact gx2
      have nx3 : (boxed T2 (.cells z59) (.cells (tscY (x, yl)))).next = T2.next + 1 := rfl
      have hylo := h2.bs.lon
      generalize boxed T2 (.cells z59) (.cells (tscY (x, yl))) = T3 at h3 gy gx3 nx3
      clear h2 gx2
      generalize T2.next = yb at nx2 gy nx3 hylo
      rw [l87 T3 h3.gc, Option.bind_some, ldN (agg_st (P_kt 14) Tryz.underlying59) (sz59 (P_kt 14)) gy (tscY_len _)]
      simp only [Option.bind_some, openAggY]
      obtain ⟨T4, q1, q2, q3⟩ := spec60 b.tmps x yl hx htm h3.bs m4 (by omega)
      rw [q1]
      simp only [Option.bind_some]
      have h4 := h3.step q2 q3
      have gy4 := q3.cells (by omega) (by omega) gy
      have gx4 := q3.cells (by omega) (by omega) gx3
      have nx4 : yb < T4.next := Nat.lt_of_lt_of_le (by omega) q3.nx
      have hfs := filt_split w1 fun p => anyN (distT b.tmps x) p.2
      generalize (w1.filter fun p => anyN (distT b.tmps x) p.2) = wo at h4 hfs
      generalize (w1.filter fun p => !anyN (distT b.tmps x) p.2) = wk at h4 hfs
      have ho : (c.1 ++ wo.map setT).length ≤ 900000 := by simp; omega
      generalize c.1 ++ wo.map setT = o1 at h4 ho
      clear q1 q2 q3 h3 gy gx3 nx3 T3 T2
      have l3 : ∀ off, loadE (kt.at 14) 3 (.ptr xb off) T4 = ((s.t57.enc).drop off).head? := fun off => ld1 (ag3 (P_kt 14)) (sz3 (P_kt 14)) gx4
      obtain ⟨⟨f4, _, lo4, yL, raw, yw, g3, rw4, ac4, ar4⟩, _, _, gc4, g04, es, ge4, he4⟩ := h4
      have hcb4 : cb < T4.next := by omega
      have hxb4 : xb < T4.next := by omega
      rw [wrap_in (by omega) (by omega)]
      refine gate_ex (c := decide (s.kind = 2 ∧ usesM b s.tmp = 1 ∧ s.e.kind ≠ 1)) ?_ ?_
      · rw [if_pos hxb4, l3 0, l3 1, l3 7]
        simp only [T57.enc, List.drop_zero, List.drop_succ_cons, List.head?_cons, Option.bind_some, openInt_v]
        rw [show s.t57.kind = s.kind from rfl, show s.t57.tmp = s.tmp from rfl, show s.t57.e_Kind = s.e.kind from rfl]
        simp only [if_pos hcb4, if_pos hxb4, l87 T4 gc4, Option.bind_some, nilE, fa14_1, loadK]
        rw [if_pos (by omega), ld1 (ag89 (P_kt 14)) (sz89 (P_kt 14)) g3, o92_15]
        simp only [Option.bind_some]
        rw [mapL im14 z14 ge4, he4, hdA, Option.bind_some]
        have hbin : binE (kt.at 14) .eql 3 (.v (.int .i64 (usesM b s.tmp))) (.v (.int .i64 1)) = some (.v (.bool (usesM b s.tmp == 1))) := rfl
        rw [hbin, Option.bind_some]
        by_cases hk : s.kind = 2
        · have e1 : (s.kind == 2) = true := by simpa using hk
          rw [e1, splitB_t]
          by_cases hu : usesM b s.tmp = 1
          · have e2 : (usesM b s.tmp == 1) = true := by simpa using hu
            rw [e2]
            simp only [splitG]
            have e3 : decide (s.kind = 2 ∧ usesM b s.tmp = 1 ∧ s.e.kind ≠ 1) = (s.e.kind != 1) := by
              by_cases h : s.e.kind = 1 <;> simp [hk, hu, h]
            rw [e3]
          · have e2 : (usesM b s.tmp == 1) = false := by simpa using hu
            rw [e2]
            simp only [splitG]
            simp [hu]
        · have e1 : (s.kind == 2) = false := by simpa using hk
          rw [e1, splitB_f]
          simp [hk, hcb4]
      · simp only [openHd_v, openBool_v]
        by_cases hc : s.kind = 2 ∧ usesM b s.tmp = 1 ∧ s.e.kind ≠ 1
        · rw [if_pos hc, decide_eq_true hc, splitB_t]
          simp only [if_pos hcb4, if_pos hxb4, if_pos nx4, l87 T4 gc4, Option.bind_some, nilE, fa14_2, loadK]
          rw [if_pos (by omega), ld1 (ag90 (P_kt 14)) (sz90 (P_kt 14)) g3, o92_16, Option.bind_some, l3 1]
          have l37 : loadE (kt.at 14) 37 (.ptr yb 7) T4 = some (.agg x.e.cells) := by
            simp only [loadE, agg_st (P_kt 14) Tryz.underlying37, sz37' (P_kt 14), gy4, Option.bind_some, objCells, takeVal, if_true]
            rw [if_pos (by rw [List.length_drop, tscY_len]; decide), tscY_e]
          simp only [T57.enc, List.drop_succ_cons, List.drop_zero, List.head?_cons, Option.bind_some, openInt_v, l37, openAgg37']
          rw [show s.t57.tmp = s.tmp from rfl]
          have hcell : [(SV.v (.int .i64 s.tmp)), (.v (.int .i64 x.e.t37.a_Tmp)), (.v (.int .i64 x.e.t37.a_Ty)), (.v (.int .u32 x.e.t37.a_C0)), (.v (.int .u32 x.e.t37.a_C1)), (.v (.int .u32 x.e.t37.a_C2)), (.v (.int .u32 x.e.t37.a_C3)), (.v (.int .i64 x.e.t37.kind)), (.v (.int .i64 x.e.t37.ty)), (.v (.int .i64 x.e.t37.op)), (.v (.int .i64 x.e.t37.off)), x.e.t37.l] = wc (s.tmp, x.e) := by
            rw [t37_eq, wc, cells_eq]
          rw [hcell]
          obtain ⟨y', T5, a1, a2, a3, a4, a5⟩ := arr_append (k := kt.at 14) (elem_of (P_kt 14) Tryz.underlying90) (sz98 (P_kt 14)) hbw hzw bw0 zwl inbox14 (by omega) lo4 ar4 (s.tmp, x.e) (room1 _ _ (by omega) bw1)
          rw [a1]
          simp only [Option.bind_some]
          have k5 : ∀ cc, cc < T4.next → (∀ cs, T4.get cc ≠ .arr 12 cs) → T5.get cc = T4.get cc := fun cc h1 h2 => a5 cc h1 (.inr h2)
          have gc5 : T5.get cb = .cells [.ptr 3 0] := by rw [a5 cb hcb4 (.inl hcbl)]; exact gc4
          have gcA : (T4.alloc (.arr 12 (wc (s.tmp, x.e)))).get cb = .cells [.ptr 3 0] := by rw [get_new _ _ _ hcb4]; exact gc4
          rw [if_pos (by omega), if_pos (asked_ptr (P_kt 14) gcA gc5)]
          rw [st1 (sz90 (P_kt 14)) (b := 3) (cs := o92 tm sp yL zT j 2 yw) (by rw [a5 3 (by omega) (.inl (by omega))]; exact g3) (by omega) (by rw [o92_len]; omega) (arrL_single a2), o92_s16]
          rw [if_pos (by show T4.next ≤ T5.next; omega)]
          refine ⟨_, rfl, ⟨⟨by show T5.floor = 0; omega, by omega, by show lo ≤ T5.next; omega, yL, raw, y', put_get _ _ _, rw4, ?_, ?_⟩, hcb3, hcbl, ?_, ?_, es, ?_, he4⟩⟩
          · exact accL_frame ac4 (by show T5.floor = T4.floor; omega) (by show T4.next ≤ T5.next; omega) fun cc h1 h2 => by
              rw [get_put _ _ _ _ (by rintro rfl; rw [g3] at h2; cases h2), k5 cc h1 (by rw [h2]; simp)]
          · exact arrL_frame a2 rfl (Nat.le_refl _) fun cc h1 _ _ => get_put _ _ _ _ (by omega)
          · rw [get_put _ _ _ _ (by omega)]; exact gc5
          · rw [get_put _ _ _ _ (by omega), a5 0 (by omega) (.inl (by omega))]; exact g04
          · rw [get_put _ _ _ _ (by omega), a5 2 (by omega) (.inl (by omega))]; exact ge4
        · rw [if_neg hc, decide_eq_false hc, splitB_f]
          simp only [if_pos hcb4, if_pos hxb4, if_pos nx4, l87 T4 gc4, Option.bind_some, nilE, fa14_0, fa39_1, loadK]
          rw [if_pos (by omega), ld1 (ag34 (P_kt 14)) (sz34 (P_kt 14)) g3, o92_1, Option.bind_some]
          rw [ldN (agg_st (P_kt 14) Tryz.underlying59) (sz59 (P_kt 14)) gy4 (tscY_len _)]
          simp only [Option.bind_some, openAggY]
          have hrl : raw.length = o1.length := by
            have := congrArg List.length rw4.1
            simpa using this
          obtain ⟨yL', T5, a1, a2, a3, a4, a5, a6⟩ := accL_append tscY_len (elem_of (P_kt 14) Tryz.underlying34) (sz59 (P_kt 14)) hbs hzs (by decide) bs0 zsl (by decide) ac4 (x, yl) (room1 _ _ (by omega) bs1)
          rw [show T59.enc (rawT x yl) = tscY (x, yl) from rfl, a1]
          simp only [Option.bind_some]
          rw [st1 (sz34 (P_kt 14)) (b := 3) (cs := o92 tm sp yL zT j 2 yw) (by rw [a5 3 (by omega)]; exact g3) (by omega) (by rw [o92_len]; omega) (accL_single a2), o92_s1]
          rw [if_pos (by show T4.next ≤ T5.next; omega)]
          refine ⟨_, rfl, ⟨⟨by show T5.floor = 0; omega, by omega, by show lo ≤ T5.next; omega, yL', raw ++ [(x, yl)], yw, put_get _ _ _, rw4.snoc (x, yl) r2, ?_, ?_⟩, hcb3, hcbl, ?_, ?_, es, ?_, he4⟩⟩
          · exact accL_keep a2 rfl (Nat.le_refl _) fun cc h1 _ => get_put _ _ _ _ (by omega)
          · exact arrL_frame ar4 (by show T5.floor = T4.floor; omega) (by show T4.next ≤ T5.next; omega) fun cc h1 h2 h3 => by
              rw [get_put _ _ _ _ (by omega), a6 cc h2 (by rw [h3]; simp)]
          · rw [get_put _ _ _ _ (by omega), a5 cb hcbl]; exact gc4
          · rw [get_put _ _ _ _ (by omega), a5 0 (by omega)]; exact g04
          · rw [get_put _ _ _ _ (by omega), a5 2 (by omega)]; exact ge4)
    (fun vs S' hI => by
      obtain ⟨rfl, _⟩ := hI
      unfold F14b
      simp only [openHd_v, openInt_v, splitB_dec]
      rw [if_neg (by omega)])
    b.l.length 0 rfl [.v (.int .i64 0)] S 1000000 ⟨rfl, by rw [List.take_zero]; exact h⟩ (by omega)
  rw [List.take_length] at h2
  exact ⟨S', h1, h2⟩
end Go.Sv
end
section
namespace Go.Sv
open Go Go.Proofs Go.Proofs.YtkflapebfmcmaaaGreat
set_option linter.all false
set_option maxRecDepth 100000

/-- The block's cells behind its next tree. -/
theorem fin39 (tm sp yL : SV) (t : Tree) (j : Int) (um : Nat) (yw : SV) : ([tm, yL] ++ t.cells ++ [.v (.int .i64 j), sp, .map um, yw]).take 15 = T39.enc ⟨tm, yL, t.t37.a_Tmp, t.t37.a_Ty, t.t37.a_C0, t.t37.a_C1, t.t37.a_C2, t.t37.a_C3, t.t37.kind, t.t37.ty, t.t37.op, t.t37.off, t.t37.l, j, sp⟩ := by
  rw [cells_eq, t37_eq]; rfl

set_option maxHeartbeats 4000000 in
theorem spec14 (b : Block) (hB : bndB b) (hT : b.tmps.length ≤ 1000000000) (hL : b.l.length ≤ 1000000000) (hS : b.spans.length ≤ 1000000000) (hN : b.next.ok) (S : St) : run kt (.func 14 [] []) [.agg b.t31.enc] S = some (.tuple [.agg (buildP b).1.t39.enc, .v (.int .i64 (buildP b).2)], S) := by
  suffices ∃ cs S2, cBody (kt.at 14) h14 (run kt) 1000000 (compF Tryz.f14) [.agg b.t31.enc] St0 = some (.tuple [.agg cs, .v (.int .i64 (buildP b).2)], S2) ∧ eraseL S2 cs = (buildP b).1.t39.enc by
    obtain ⟨cs, S2, h1, h2⟩ := this
    have := go_closed ks_kt (f := 14) (fst := []) (cap := []) (args := [.agg b.t31.enc]) (S := S) h14 1000000 rfl (fn_kt 14 fn14) rfl (z := (.tuple [.agg cs, .v (.int .i64 (buildP b).2)], S2)) (by
      simp only [List.nil_append, List.append_nil, List.map_cons, List.map_nil, block_ws]
      exact h1)
    rw [tup2_erase (x' := .agg (buildP b).1.t39.enc) (y' := .v (.int .i64 (buildP b).2)) (by simp only [erase, h2]) rfl] at this
    exact this
  rw [tell14']
  rw [show (St.alloc St0 (.cells [(.v (.slice none 0 0)), (.v (.slice none 0 0)), (.v (.int .i64 (0 : Int))), (.v (.int .i64 (0 : Int))), (.v (.int .u32 (0 : Int))), (.v (.int .u32 (0 : Int))), (.v (.int .u32 (0 : Int))), (.v (.int .u32 (0 : Int))), (.v (.int .i64 (0 : Int))), (.v (.int .i64 (0 : Int))), (.v (.int .i64 (0 : Int))), (.v (.int .i64 (0 : Int))), (.v (.slice none 0 0)), (.v (.int .i64 (0 : Int))), (.v (.slice none 0 0))])) = St0.alloc (.cells z39) from rfl]
  rw [spec54 b hB hT hL hS hN, Option.bind_some, openInt_v]
  have hA : (St0.alloc (.cells z39)).get 0 = .cells z39 := by simp [St.alloc, St0]
  have hfA : (St0.alloc (.cells z39)).floor = 0 := rfl
  have hnA : (St0.alloc (.cells z39)).next = 1 := rfl
  simp only []
  generalize (St0.alloc (.cells z39)) = SA at hA hfA hnA
  by_cases herr : errB b = 0
  · have e1 : (errB b != 0) = false := by simp [herr]
    rw [e1, splitB_f]
    obtain ⟨hlim, hval, _⟩ := okB_facts herr
    obtain ⟨l1, l2, l3, _, _⟩ := hlim
    obtain ⟨tm, sp, S1, r1, htm, hsp, f1, n1, g3, g2, k1⟩ := spec55 b (by omega) (by omega) SA hfA
    rw [hnA] at r1 n1 g3 g2 k1
    rw [r1, Option.bind_some]
    rw [st1 (S := S1.alloc (.cells [.v (.pointer none)])) (sz87 (P_kt 14)) (cs := [.v (.pointer none)]) (by simp [St.alloc]) (by show S1.floor ≤ S1.next; omega) (by simp) rfl]
    have hS2 : ∃ S2, ((S1.alloc (.cells [.v (.pointer none)])).put S1.next (.cells (splice [.v (.pointer none)] 0 [.ptr 3 0]))) = S2 ∧ S2.get S1.next = .cells [.ptr 3 0] ∧ S2.floor = 0 ∧ S2.next = S1.next + 1 ∧ ∀ c, c < S1.next → S2.get c = S1.get c := by
      refine ⟨_, rfl, put_get _ _ _, f1, rfl, fun c hc => ?_⟩
      rw [get_put _ _ _ _ (by omega), get_new _ _ _ hc]
    obtain ⟨S2, e2, gc, f2, n2, k2⟩ := hS2
    rw [show (SV.ptr (1 + 2) 0) = .ptr 3 0 from rfl, e2]
    clear e2
    simp only []
    generalize hcb : S1.next = cb at *
    have hci : CI tm sp b.jump cb (cb + 1) [] [] [] S2 := by
      refine ⟨⟨f2, by omega, by omega, .v (.slice none 0 0), [], .v (.slice none 0 0), ?_, rawY0, accL0 _ _ _ (by omega) (by omega), .inl ⟨rfl, rfl⟩⟩, by omega, by omega, gc, ?_, [], ?_, fun t => rfl⟩
      · rw [k2 _ (by omega)]; exact g3
      · rw [k2 _ (by omega), k1 _ (by omega)]; exact hA
      · rw [k2 _ (by omega)]; exact g2
    have hBd : ∀ s ∈ b.l, s.l.length ≤ 190000 ∧ s.e.l.length ≤ 190000 := fun s hs => (hB s hs).1
    have hlb : lenE (kt.at 14) 23 b.t31.l = some (.v (.int .i64 (b.l.length : Int))) := len_stmts (P_kt 14) b.l
    rw [hlb, Option.bind_some, openInt_v]
    obtain ⟨S3, e3, c3⟩ := loopA b l2 hBd hci
    rw [e3]
    simp only [Option.bind_some, openHd_v, openInt_v, exits_exit, if_true]
    have hal := allA_len b.l hBd
    obtain ⟨S4, e4, c4, _⟩ := spec56 b.next c3 (by omega)
    rw [show SV.agg [(.v (.int .i64 b.t31.next_Tmp)), (.v (.int .i64 b.t31.next_Ty)), (.v (.int .u32 b.t31.next_C0)), (.v (.int .u32 b.t31.next_C1)), (.v (.int .u32 b.t31.next_C2)), (.v (.int .u32 b.t31.next_C3))] = .agg b.next.t28.enc from rfl, e4]
    simp only [Option.bind_some, openInt_v]
    obtain ⟨S5, e5, c5⟩ := loopB b l2 hB hval (rd_ws (cl_ic .i64) htm) (fun t => uses_cnt b t) c4
    rw [e5]
    simp only [Option.bind_some, openHd_v, openInt_v, exits_exit, if_true]
    obtain ⟨bn1, bn2⟩ := stP_bnd b hB b.l.length (Nat.le_refl _)
    rw [List.take_length] at bn1 bn2
    have hbuild : buildP b = (⟨b.tmps, (stP b b.l).1, (takeP b.next (stP b b.l).2).1, b.jump, b.spans⟩, 0) := by
      unfold buildP; rw [if_neg (by simpa using herr)]
    rw [hbuild]
    generalize stP b b.l = c at c5 bn1 bn2
    have hcb5 : cb < S5.next := by have := c5.bs.lon; omega
    have l87 : ∀ T : St, T.get cb = .cells [.ptr 3 0] → loadE (kt.at 14) 87 (.ptr cb 0) T = some (.ptr 3 0) := fun T h => by rw [ld1 (ag87 (P_kt 14)) (sz87 (P_kt 14)) h]; rfl
    obtain ⟨S6, _, e6, b6, fr6⟩ := spec59 b.next c5.bs (by omega)
    have c6 := c5.step b6 fr6
    have n6 := fr6.nx
    simp only [if_pos hcb5, l87 S5 c5.gc, Option.bind_some, e6, openAgg37', nilE, fa14_0, fa39_2]
    generalize (takeP b.next c.2).1 = tn
    generalize (takeP b.next c.2).2 = wn at b6 c6
    rw [if_pos n6, if_pos (asked_ptr (P_kt 14) c5.gc c6.gc)]
    rw [show T37.enc tn.t37 = tn.cells from rfl]
    obtain ⟨⟨f, _, lo6, yL, raw, yw, gb, rw6, ac6, ar6⟩, hcb3, hcbl, gc6, g06, _⟩ := c6
    rw [stN (sz37' (P_kt 14)) (by decide) (b := 3) gb (by omega) (Tree.cells_len _) (by rw [o92_len]; decide), o92_s2]
    rw [if_pos (by show S5.next ≤ S6.next; omega)]
    rw [l87 _ (by rw [get_put _ _ _ _ (by omega)]; exact gc6)]
    simp only [Option.bind_some, nilE, fa14_0]
    have l39 : loadE (kt.at 14) 39 (.ptr 3 0) (S6.put 3 (.cells ([tm, yL] ++ tn.cells ++ [.v (.int .i64 b.jump), sp, .map 2, yw]))) = some (.agg (T39.enc ⟨tm, yL, tn.t37.a_Tmp, tn.t37.a_Ty, tn.t37.a_C0, tn.t37.a_C1, tn.t37.a_C2, tn.t37.a_C3, tn.t37.kind, tn.t37.ty, tn.t37.op, tn.t37.off, tn.t37.l, b.jump, sp⟩)) := by
      simp only [loadE, agg_st (P_kt 14) Tryz.underlying39, sz39 (P_kt 14), put_get, Option.bind_some, objCells, takeVal, if_true, List.drop_zero]
      rw [if_pos (by simp [Tree.cells_len]), fin39]
    rw [l39]
    simp only [Option.bind_some]
    rw [show ∀ (t : T39) (K : cd39.α → Option (SV × St)), openAgg cd39 (.agg t.enc) K = K t from fun t K => rfl]
    rw [stN (sz39 (P_kt 14)) (by decide) (b := 0) (cs := z39) (by rw [get_put _ _ _ _ (by decide)]; exact g06) (by show S6.floor ≤ 0; omega) rfl (by decide), splice39]
    rw [ldN (agg_st (P_kt 14) Tryz.underlying39) (sz39 (P_kt 14)) (put_get _ _ _) rfl, Option.bind_some]
    refine ⟨_, _, rfl, ?_⟩
    have hE : ∀ S, erase S yL = sl tsc c.1 := fun S => rawY_erase rw6 (accL_rd ac6) S
    rw [t37_eq]
    simp only [T39.enc, eraseL, erase, weakV, rd_erase (cl_ic .i64) htm, hE, rd_erase cl_pc hsp, sl_erase cl_tree]
    rfl
  · have e1 : (errB b != 0) = true := by simpa using herr
    have h7 : errB b = 7 := by unfold errB at herr ⊢; split at herr <;> simp_all
    rw [e1, splitB_t]
    rw [stN (sz39 (P_kt 14)) (by decide) (b := 0) (cs := z39) hA (by omega) rfl (by decide), splice15]
    rw [ldN (agg_st (P_kt 14) Tryz.underlying39) (sz39 (P_kt 14)) (put_get _ _ _) rfl, Option.bind_some]
    unfold buildP
    rw [if_pos herr]
    exact ⟨_, _, rfl, rfl⟩
end Go.Sv
end
section
namespace Go.Sv
open Go Go.Proofs Go.Proofs.YtkflapebfmcmaaaGreat
set_option linter.all false
set_option maxRecDepth 100000

theorem ety_zero (k ty op off : Int) (l : List Int) (h : 0 ∈ l) (hk : k ≠ 0) : etyM k ty op off l = 0 := by
  unfold etyM exprTyM
  refine tyM_zero _ _ _ _ _ ?_
  obtain ⟨i, hi, he⟩ := List.getElem_of_mem h
  refine List.mem_map.2 ⟨nbAtom (i : Int), ?_, ?_⟩
  · exact List.mem_map.2 ⟨i, List.mem_range.2 hi, rfl⟩
  · unfold atomTy nbAtom
    simp [hi, he]
theorem valid_VS {tmps : List Int} {s : Stmt} (h : validM tmps s = true) : VS s := by
  have hd := valid_def h
  refine ⟨fun hk => ?_, fun hk => ?_, valid_put h⟩
  · refine ⟨?_, (hd.1 (.inl hk)).1, ?_⟩
    · unfold validM at h
      split at h
      · cases h
      · unfold validK at h
        simp [hk, typesM] at h
        exact h.1
    · intro h0
      unfold validM at h
      split at h
      · cases h
      · unfold validK at h
        simp [hk] at h
        have : exprTyM tmps s.e = 0 := by
          unfold exprTyM tyM okM
          simp [h0]
        exact h.2.2.2.1 this
  · unfold validM at h
    split at h
    · cases h
    · rename_i hc
      have hk' : (s.kind != 2) = true := by simpa using hk
      have : noneM s.e = true := by
        cases hn : noneM s.e with
        | true => rfl
        | false => exact (hc (by simp [hk', hn])).elim
      unfold noneM at this
      simp at this
      exact this.2.2.2.2
theorem once_of {tmps : List Int} : ∀ (l : List Stmt) (D D' E : List Int), chkL tmps D l = some E → (∀ x ∈ D', x ∈ D) → Once D' l
  | [], _, _, _, _, _ => trivial
  | s :: r, D, D', E, h, hs => by
    rw [chkL] at h
    simp only [Option.bind_eq_some_iff] at h
    obtain ⟨D1, h1, h2⟩ := h
    unfold stepC at h1
    split at h1
    · rename_i hc
      cases h1
      obtain ⟨hv, _, hn⟩ := hc
      refine ⟨valid_VS hv, fun hk hm => ?_, once_of r _ _ _ h2 fun x hx => ?_⟩
      · have e : defM s = s.tmp := by unfold defM; simp [hk]
        have h0 := ((valid_def hv).1 (.inl hk)).1
        exact hn (by omega) (by rw [e]; exact hs _ hm)
      · split at hx
        · rename_i hk
          have e : defM s = s.tmp := by unfold defM; simp [hk]
          have h0 := ((valid_def hv).1 (.inl hk)).1
          rw [if_pos (by omega)]
          rcases List.mem_cons.1 hx with rfl | hx
          · simp [e]
          · exact List.mem_cons_of_mem _ (hs _ hx)
        · split
          · exact List.mem_cons_of_mem _ (hs _ hx)
          · exact hs _ hx
    · cases h1

/-- The program and its reference build the same. -/
theorem build_eq (b : Block) : buildP b = buildR b := by
  unfold buildP buildR
  by_cases herr : errB b = 0
  · rw [if_neg (by simpa using herr), if_neg (by simpa using herr)]
    obtain ⟨_, _, D, hc, _⟩ := okB_facts herr
    obtain ⟨e1, e2⟩ := fold_eq bytesM w64 (atomTy b.tmps) etyM (fun k ty op off l h hk => ety_zero k ty op off l h hk) (usesM b) b.l [] ([], []) (once_of b.l [] [] D hc fun x hx => hx) ⟨by simp, fun p hp => by simp at hp, fun p hp => by simp at hp⟩ (fun p hp => by simp at hp)
    have e1 : stP b b.l = stB b b.l := e1
    have e2 : WW (stB b b.l).2 := e2
    rw [e1, take_eq b.next _ e2.nodup e2.nn]
  · rw [if_pos herr, if_pos herr]
end Go.Sv
end
section
namespace Go.Sv
open Go Go.Proofs
set_option linter.all false
set_option maxRecDepth 1000000
set_option maxHeartbeats 0
def h3 : H := { hh with live := fun b => match b with  | _ => [], keep := fun b => match b with | 22 => some [(2, 2)] | _ => none }
end Go.Sv
end
section
namespace Go.Sv
open Go Go.Proofs Go.Proofs.YtkflapebfmcmaaaGreat
set_option linter.all false
set_option maxRecDepth 100000

/-! What is the same is told to be the same. -/
theorem len_sl' {k : K} {t e : TypeId} (hP : k.P = Tryz.prog) (ht : Tryz.prog.underlying t = some (.slice e)) {α : Type} (f : α → List SV) (l : List α) : lenE k t (sl f l) = some (.v (.int .i64 (l.length : Int))) := rd_len hP ht (rd_sl f l)
structure BT (b : TBlock) : Prop where
  tm : b.tmps.length ≤ 1000000
  l : b.l.length ≤ 1000000
  sp : b.spans.length ≤ 1000000
  nx : TB b.next
  st : ∀ s ∈ b.l, TBs s ∧ s.l.length ≤ 1000000

theorem tblock_ws (b : TBlock) : weak (shut (.agg b.t39.enc)) = .agg b.t39.enc := by
  have h1 := sl_shut (cl_ic .i64) b.tmps
  have h2 := sl_shut cl_tsc b.l
  have h3 := sl_shut cl_tree b.next.l
  have h4 := sl_shut cl_pc b.spans
  simp only [T39.enc, TBlock.t39, shut, shutL, weak, weakL, weakV, nums_is, spanl, h1.1, h1.2, h2.1, h2.2, h3.1, h3.2, h4.1, h4.2]
end Go.Sv
end
section
namespace Go.Sv
open Go Go.Proofs
set_option linter.all false
set_option maxRecDepth 1000000

/-! What may come in as a block IS a block. -/
theorem decW_int {n : Nat} {t : TypeId} {q : IntKind} {cs : List SV} (hu : Tryz.prog.underlying t = some (.int q)) (h : ShW Tryz.prog n t cs) : ∃ x, (Lit.int q x).wf = true ∧ cs = [.v (.int q x)] := by
  cases n with
  | zero => exact h.elim
  | succ n => simpa only [ShW, hu] using h
theorem decW_u32 {n : Nat} {cs : List SV} (h : ShW Tryz.prog n 24 cs) : ∃ x : Int, (0 ≤ x ∧ x ≤ 4294967295) ∧ cs = [.v (.int .u32 x)] := by
  obtain ⟨x, hw, rfl⟩ := decW_int Tryz.underlying24 h
  refine ⟨x, ?_, rfl⟩
  have e1 : IntKind.u32.min = 0 := by decide
  have e2 : IntKind.u32.max = 4294967295 := by decide
  simp [Lit.wf, e1, e2] at hw
  exact hw
theorem decW26 {n : Nat} {cs : List SV} (h : ShW Tryz.prog n 26 cs) : ∃ a b c d : Int, (0 ≤ a ∧ a ≤ 4294967295) ∧ cs = [.v (.int .u32 a), .v (.int .u32 b), .v (.int .u32 c), .v (.int .u32 d)] := by
  cases n with
  | zero => exact h.elim
  | succ n =>
    simp only [ShW, Tryz.underlying26, List.replicate, parts] at h
    obtain ⟨_, _, rfl, h1, _, _, rfl, h2, _, _, rfl, h3, _, _, rfl, h4, rfl⟩ := h
    obtain ⟨a, ha, rfl⟩ := decW_u32 h1
    obtain ⟨b, _, rfl⟩ := decW_u32 h2
    obtain ⟨c, _, rfl⟩ := decW_u32 h3
    obtain ⟨d, _, rfl⟩ := decW_u32 h4
    exact ⟨a, b, c, d, ha, rfl⟩
theorem decW28 {n : Nat} {cs : List SV} (h : ShW Tryz.prog n 28 cs) : ∃ a : Atom, cs = ac a ∧ a.ok := by
  cases n with
  | zero => exact h.elim
  | succ n =>
    simp only [ShW, Tryz.underlying28, List.map, parts] at h
    obtain ⟨_, _, rfl, h1, _, _, rfl, h2, _, _, rfl, h3, rfl⟩ := h
    obtain ⟨a, _, rfl⟩ := decW_int Tryz.underlying3 h1
    obtain ⟨b, _, rfl⟩ := decW_int Tryz.underlying3 h2
    obtain ⟨c0, c1, c2, c3, hc, rfl⟩ := decW26 h3
    exact ⟨⟨a, b, c0, c1, c2, c3⟩, rfl, hc⟩
/-- A list of things of one type. -/
theorem decW_slice {α : Type} {f : α → List SV} {Q : α → Prop} {n by_ : Nat} {t e : TypeId} {cs : List SV} (hu : Tryz.prog.underlying t = some (.slice e)) (hb : Tryz.prog.bytesOf e = by_) (h : ShW Tryz.prog n t cs) (hd : ∀ {m : Nat} {x : List SV}, ShW Tryz.prog m e x → ∃ a, x = f a ∧ Q a) : ∃ l : List α, cs = [sl f l] ∧ l.length * by_ ≤ reachBytes ∧ ∀ a ∈ l, Q a := by
  cases n with
  | zero => exact h.elim
  | succ n =>
    simp only [ShW, hu] at h
    obtain ⟨l, rfl, _, hl, hx⟩ := h
    have : ∀ l : List (List SV), (∀ x ∈ l, ShW Tryz.prog n e x) → ∃ ts : List α, l = ts.map f ∧ ∀ a ∈ ts, Q a := by
      intro l
      induction l with
      | nil => intro _; exact ⟨[], rfl, fun a ha => by cases ha⟩
      | cons x r ih =>
        intro h
        obtain ⟨a, rfl, ha⟩ := hd (h x (by simp))
        obtain ⟨ts, rfl, hts⟩ := ih fun y hy => h y (by simp [hy])
        refine ⟨a :: ts, rfl, fun b hb => ?_⟩
        rcases List.mem_cons.1 hb with rfl | hb
        · exact ha
        · exact hts b hb
    obtain ⟨ts, rfl, hts⟩ := this l hx
    refine ⟨ts, ?_, by rw [← hb]; simpa using hl, hts⟩
    simp [sl, List.flatMap]
theorem bytesOf28 : Tryz.prog.bytesOf 28 = 32 := by kernel_rfl
theorem bytesOf3 : Tryz.prog.bytesOf 3 = 8 := by kernel_rfl
theorem bytesOf57 : Tryz.prog.bytesOf 57 = 128 := by kernel_rfl
theorem bytesOf108 : Tryz.prog.bytesOf 108 = 16 := by kernel_rfl
def okL (l : List Atom) : Prop := l.length * 32 ≤ reachBytes ∧ ∀ a ∈ l, a.ok
theorem decW53 {n : Nat} {cs : List SV} (h : ShW Tryz.prog n 53 cs) : ∃ l : List Atom, cs = [atoms l] ∧ okL l := by
  obtain ⟨l, h1, h2, h3⟩ := decW_slice (f := ac) (Q := Atom.ok) Tryz.underlying53 bytesOf28 h decW28
  exact ⟨l, h1, h2, h3⟩
theorem decW55 {n : Nat} {cs : List SV} (h : ShW Tryz.prog n 55 cs) : ∃ e : Expr, cs = e.t55.enc ∧ okL e.l := by
  cases n with
  | zero => exact h.elim
  | succ n =>
    simp only [ShW, Tryz.underlying55, List.map, parts] at h
    obtain ⟨_, _, rfl, h1, _, _, rfl, h2, _, _, rfl, h3, _, _, rfl, h4, _, _, rfl, h5, rfl⟩ := h
    obtain ⟨a, _, rfl⟩ := decW_int Tryz.underlying3 h1
    obtain ⟨b, _, rfl⟩ := decW_int Tryz.underlying3 h2
    obtain ⟨c, _, rfl⟩ := decW_int Tryz.underlying3 h3
    obtain ⟨d, _, rfl⟩ := decW_int Tryz.underlying3 h4
    obtain ⟨l, rfl, hl⟩ := decW53 h5
    exact ⟨⟨a, b, c, d, l⟩, rfl, hl⟩
theorem decW57 {n : Nat} {cs : List SV} (h : ShW Tryz.prog n 57 cs) : ∃ s : Stmt, cs = sc s ∧ okL s.e.l ∧ okL s.l := by
  cases n with
  | zero => exact h.elim
  | succ n =>
    simp only [ShW, Tryz.underlying57, List.map, parts] at h
    obtain ⟨_, _, rfl, h1, _, _, rfl, h2, _, _, rfl, h3, _, _, rfl, h4, _, _, rfl, h5, _, _, rfl, h6, _, _, rfl, h7, _, _, rfl, h8, _, _, rfl, h9, rfl⟩ := h
    obtain ⟨a1, _, rfl⟩ := decW_int Tryz.underlying3 h1
    obtain ⟨a2, _, rfl⟩ := decW_int Tryz.underlying3 h2
    obtain ⟨a3, _, rfl⟩ := decW_int Tryz.underlying3 h3
    obtain ⟨a4, _, rfl⟩ := decW_int Tryz.underlying3 h4
    obtain ⟨a5, _, rfl⟩ := decW_int Tryz.underlying3 h5
    obtain ⟨a6, _, rfl⟩ := decW_u32 h6
    obtain ⟨a7, _, rfl⟩ := decW_u32 h7
    obtain ⟨e, rfl, he⟩ := decW55 h8
    obtain ⟨l, rfl, hl⟩ := decW53 h9
    exact ⟨⟨a1, a2, a3, a4, a5, a6, a7, e, l⟩, rfl, he, hl⟩
theorem decW108 {n : Nat} {cs : List SV} (h : ShW Tryz.prog n 108 cs) : ∃ p : Span, cs = pc p ∧ True := by
  cases n with
  | zero => exact h.elim
  | succ n =>
    simp only [ShW, Tryz.underlying108, List.map, parts] at h
    obtain ⟨_, _, rfl, h1, _, _, rfl, h2, rfl⟩ := h
    obtain ⟨a, _, rfl⟩ := decW_u32 h1
    obtain ⟨b, _, rfl⟩ := decW_int Tryz.underlying3 h2
    exact ⟨⟨a, b⟩, rfl, trivial⟩
theorem decW3 {n : Nat} {cs : List SV} (h : ShW Tryz.prog n 3 cs) : ∃ x : Int, cs = ic .i64 x ∧ True := by
  obtain ⟨a, _, rfl⟩ := decW_int Tryz.underlying3 h
  exact ⟨a, rfl, trivial⟩
/-- What holds of a block that came in. -/
structure InB (b : Block) : Prop where
  tmps : b.tmps.length * 8 ≤ reachBytes
  l : b.l.length * 128 ≤ reachBytes
  spans : b.spans.length * 16 ≤ reachBytes
  next : b.next.ok
  st : ∀ s ∈ b.l, okL s.e.l ∧ okL s.l
theorem decW31 {n : Nat} {cs : List SV} (h : ShW Tryz.prog n 31 cs) : ∃ b : Block, cs = b.t31.enc ∧ InB b := by
  cases n with
  | zero => exact h.elim
  | succ n =>
    simp only [ShW, Tryz.underlying31, List.map, parts] at h
    obtain ⟨_, _, rfl, h1, _, _, rfl, h2, _, _, rfl, h3, _, _, rfl, h4, _, _, rfl, h5, rfl⟩ := h
    obtain ⟨tm, rfl, b1, _⟩ := decW_slice (f := ic .i64) (Q := fun _ => True) Tryz.underlying22 bytesOf3 h1 decW3
    obtain ⟨l, rfl, b2, hl⟩ := decW_slice (f := sc) (Q := fun s => okL s.e.l ∧ okL s.l) Tryz.underlying23 bytesOf57 h2 decW57
    obtain ⟨nx, rfl, b3⟩ := decW28 h3
    obtain ⟨j, _, rfl⟩ := decW_int Tryz.underlying3 h4
    obtain ⟨sp, rfl, b4, _⟩ := decW_slice (f := pc) (Q := fun _ => True) Tryz.underlying29 bytesOf108 h5 decW108
    exact ⟨⟨tm, l, nx, j, sp⟩, rfl, b1, b2, b4, b3, hl⟩
end Go.Sv
end
