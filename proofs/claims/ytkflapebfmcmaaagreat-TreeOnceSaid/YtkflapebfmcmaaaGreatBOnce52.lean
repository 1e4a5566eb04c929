/- Parts of the proofs of this seat's laws. -/
import Derived.Test.YtkflapebfmcmaaaGreatBOnce51
section
namespace Go.Sv
open Go Go.Proofs Go.Proofs.YtkflapebfmcmaaaGreat
set_option linter.all false
set_option maxRecDepth 100000

/-! No more leaves than atoms. -/
theorem pick_cons (n : Int) (t0 : Tree) (p : Int × Tree) (r : Wt) : pickR n t0 (p :: r) = if hitR n p = true then pickR n p.2 r else ((pickR n t0 r).1, p :: (pickR n t0 r).2) := by
  unfold pickR
  cases h : hitR n p <;> simp [h]
theorem lvW_cons (p : Int × Tree) (r : Wt) : (lvW (p :: r)).length = (leavesT p.2).length + (lvW r).length := by simp [lvW]
theorem pick_lv (n : Int) : ∀ (w : Wt) (t0 : Tree), (leavesT (pickR n t0 w).1).length + (lvW (pickR n t0 w).2).length ≤ (leavesT t0).length + (lvW w).length
  | [], t0 => Nat.le_refl _
  | p :: r, t0 => by
    rw [pick_cons, lvW_cons]
    split
    · have := pick_lv n r p.2; omega
    · have := pick_lv n r t0
      simp only [lvW_cons]; omega
theorem leaf_lv (a : Atom) : (leavesT (leafT a)).length = 1 := by unfold leafT; rw [leavesT, if_pos rfl]; rfl
theorem taken_lv : ∀ (l : List Atom) (w : Wt), (leavesL (takenR l w).1).length + (lvW (takenR l w).2).length ≤ l.length + (lvW w).length
  | [], w => by simp [takenR, leavesL]
  | a :: r, w => by
    have h1 := pick_lv a.tmp w (leafT a)
    have h2 := taken_lv r (pickR a.tmp (leafT a) w).2
    rw [leaf_lv] at h1
    simp only [takenR, leavesL, List.length_append, List.length_cons]
    omega
theorem lvW_filter (q : Int × Tree → Bool) : ∀ w : Wt, (lvW (w.filter q)).length + (lvW (w.filter fun p => !q p)).length = (lvW w).length
  | [] => rfl
  | p :: r => by
    have := lvW_filter q r
    cases h : q p <;> simp only [List.filter_cons, h, Bool.not_true, Bool.not_false, if_true, if_false, Bool.false_eq_true, lvW_cons] <;> omega
theorem stB_lv (b : Block) (hv : ∀ s ∈ b.l, VS s) : ∀ i, i ≤ b.l.length → (lvO (stB b (b.l.take i)).1).length + (lvW (stB b (b.l.take i)).2).length ≤ (allA (b.l.take i)).length := by
  intro i
  induction i with
  | zero => intro _; rw [List.take_zero]; exact Nat.le_refl 0
  | succ i ih =>
    intro hi
    have ih := ih (by omega)
    have hvs := hv b.l[i] (List.getElem_mem (by omega))
    rw [List.take_succ_eq_append_getElem (by omega), stB_snoc, allA_snoc]
    generalize stB b (b.l.take i) = c at ih
    generalize b.l[i] = s at hvs
    obtain ⟨ts, e1, e2, e3, _, _⟩ := stmtR_made hvs c.2
    have h1 := taken_lv (s.e.l ++ s.l) c.2
    rw [e1] at h1
    simp only at h1
    have h2 := lvW_filter (fun p => distM b.tmps (stmtR s c.2).1 p.2) (stmtR s c.2).2
    have hx : (lvO [(stmtR s c.2).1]).length = (leavesL ts).length := by simp [lvO, e2]
    unfold stepB
    simp only [List.length_append]
    rw [List.length_append] at h1
    have hs : (lvO (((stmtR s c.2).2.filter fun p => distM b.tmps (stmtR s c.2).1 p.2).map setT)).length = (lvW ((stmtR s c.2).2.filter fun p => distM b.tmps (stmtR s c.2).1 p.2)).length := by rw [lvO_set]
    by_cases hc : s.kind = 2 ∧ usesM b s.tmp = 1 ∧ s.e.kind ≠ 1
    · rw [if_pos hc]
      have hw : ∀ w : Wt, (lvW (w ++ [(s.tmp, (stmtR s c.2).1.e)])).length = (lvW w).length + (leavesL ts).length := by
        intro w; simp [lvW, (e3 hc.1).1]
      simp only [lvO_append, List.length_append, hw, hs]
      omega
    · rw [if_neg hc]
      simp only [lvO_append, List.length_append, hx, hs]
      omega
theorem allA_sum : ∀ l : List Stmt, (allA l).length = sumA l
  | [] => rfl
  | s :: r => by
    have e : allA (s :: r) = (s.e.l ++ s.l) ++ allA r := rfl
    rw [e, sumA_cons, List.length_append, List.length_append, allA_sum r]; omega
theorem build_leaves {b : Block} (herr : errB b = 0) : (allL (buildR b).1).length ≤ sumA b.l + 1 := by
  obtain ⟨_, hval, _⟩ := okB_facts herr
  have h := stB_lv b (fun s hs => valid_VS (hval s hs)) b.l.length (Nat.le_refl _)
  rw [List.take_length, allA_sum] at h
  have hbuild : buildR b = (⟨b.tmps, (stB b b.l).1, (pickR b.next.tmp (leafT b.next) (stB b b.l).2).1, b.jump, b.spans⟩, 0) := by
    unfold buildR; rw [if_neg (by simpa using herr)]
  rw [hbuild]
  have h2 := pick_lv b.next.tmp (stB b b.l).2 (leafT b.next)
  rw [leaf_lv] at h2
  unfold allL
  simp only [List.length_append]
  have e : (lvO (stB b b.l).1).length = ((stB b b.l).1.flatMap fun s => leavesL (partsT s)).length := by simp [lvO]
  rw [← e]
  omega
/-- A statement that is built has no more trees than it had atoms. -/
theorem stB_parts (b : Block) (hv : ∀ s ∈ b.l, VS s) : ∀ i, i ≤ b.l.length → ∀ x ∈ (stB b (b.l.take i)).1, x.l.length ≤ (allA (b.l.take i)).length := by
  intro i
  induction i with
  | zero => intro _ x hx; simp [stB] at hx
  | succ i ih =>
    intro hi
    have ih := ih (by omega)
    have hvs := hv b.l[i] (List.getElem_mem (by omega))
    rw [List.take_succ_eq_append_getElem (by omega), stB_snoc, allA_snoc]
    generalize stB b (b.l.take i) = c at ih
    generalize b.l[i] = s at hvs
    have hx0 : (stmtR s c.2).1.l.length ≤ s.l.length := by
      by_cases hk : s.kind = 2
      · have : (stmtR s c.2).1.l = [] := by unfold stmtR; rw [if_pos hk]; rfl
        rw [this]; simp
      · rw [(stmtR_kind s c.2).2.2.2 hk]; omega
    unfold stepB
    simp only [List.length_append]
    have ho : ∀ x ∈ c.1 ++ ((stmtR s c.2).2.filter fun p => distM b.tmps (stmtR s c.2).1 p.2).map setT, x.l.length ≤ (allA (b.l.take i)).length + (s.e.l.length + s.l.length) := by
      intro x hx
      rcases List.mem_append.1 hx with hx | hx
      · have := ih x hx; omega
      · obtain ⟨p, hp, rfl⟩ := List.mem_map.1 hx
        simp [setT]
    split
    · exact ho
    · intro x hx
      rcases List.mem_append.1 hx with hx | hx
      · exact ho x hx
      · simp only [List.mem_singleton] at hx; subst hx; omega
theorem build_parts {b : Block} (herr : errB b = 0) : ∀ x ∈ (buildR b).1.l, x.l.length ≤ sumA b.l := by
  obtain ⟨_, hval, _⟩ := okB_facts herr
  have h := stB_parts b (fun s hs => valid_VS (hval s hs)) b.l.length (Nat.le_refl _)
  rw [List.take_length, allA_sum] at h
  have hbuild : buildR b = (⟨b.tmps, (stB b b.l).1, (pickR b.next.tmp (leafT b.next) (stB b b.l).2).1, b.jump, b.spans⟩, 0) := by
    unfold buildR; rw [if_neg (by simpa using herr)]
  rw [hbuild]
  exact h
end Go.Sv
end
section
namespace Go.Sv
open Go Go.Proofs Go.Proofs.YtkflapebfmcmaaaGreat
set_option linter.all false
set_option maxRecDepth 100000

def n6 (l : List TStmt) (t : Int) : Nat := (l.filter fun x => x.kind == 2 && x.tmp == t).length
theorem n6_snoc (l : List TStmt) (x : TStmt) (t : Int) : n6 (l ++ [x]) t = n6 l t + if (x.kind == 2 && x.tmp == t) = true then 1 else 0 := by
  unfold n6
  cases h : (x.kind == 2 && x.tmp == t) <;> simp [List.filter_append, List.filter_cons, h]
theorem n6_le (l : List TStmt) (t : Int) : n6 l t ≤ l.length := List.length_filter_le _ _
theorem n6_zero {l : List TStmt} {t : Int} (h : n6 l t = 0) : t ∉ outS l := by
  intro hm
  obtain ⟨x, hx, hk, ht⟩ := outS_mem hm
  have : x ∈ l.filter fun x => x.kind == 2 && x.tmp == t := List.mem_filter.2 ⟨hx, by simp [hk, ht]⟩
  rw [List.eq_nil_of_length_eq_zero h] at this
  simp at this
theorem n6_one {l : List TStmt} {t : Int} (h : (outS l).Nodup) : n6 l t ≤ 1 := by
  induction l with
  | nil => simp [n6]
  | cons x r ih =>
    have e : outS (x :: r) = (if x.kind = 2 then [x.tmp] else []) ++ outS r := by
      by_cases hk : x.kind = 2 <;> simp [outS, List.filter_cons, hk]
    have en : n6 (x :: r) t = (if (x.kind == 2 && x.tmp == t) = true then 1 else 0) + n6 r t := by
      unfold n6
      cases h : (x.kind == 2 && x.tmp == t) <;> simp [List.filter_cons, h]; omega
    rw [e] at h
    by_cases hk : x.kind = 2
    · rw [if_pos hk] at h
      have hn : x.tmp ∉ outS r ∧ (outS r).Nodup := by simpa using h
      have ihr := ih hn.2
      by_cases ht : x.tmp = t
      · have : n6 r t = 0 := by
          unfold n6
          rw [List.filter_eq_nil_iff.2]; rfl
          intro y hy hc
          simp only [Bool.and_eq_true, beq_iff_eq] at hc
          refine hn.1 ?_
          rw [ht, ← hc.2]
          exact List.mem_map_of_mem (List.mem_filter.2 ⟨hy, by simp [hc.1]⟩)
        rw [en, this]; split <;> omega
      · have : (x.kind == 2 && x.tmp == t) = false := by simp [ht]
        rw [en, this]; simpa using ihr
    · rw [if_neg hk, List.nil_append] at h
      have : (x.kind == 2 && x.tmp == t) = false := by simp [hk]
      rw [en, this]; simpa using ih h

def z55 : List SV := [(.v (.int .i64 (0 : Int))), (.v (.int .i64 (0 : Int))), (.v (.int .i64 (0 : Int))), (.v (.int .i64 (0 : Int))), (.v (.slice none 0 0))]
set_option maxHeartbeats 1000000 in
theorem loopG6 (b : Block) (j : Nat) (hj : j < b.l.length) (s : Stmt) (hs : b.l[j] = s) (tb : TBlock) (hl : tb.l.length ≤ 900000) (hall : ∀ x ∈ tb.l, x.kind = 2 → x.tmp = s.tmp → sameE s x.e) {bb xb : Nat} {S : St} (hf : S.floor = 0) (hbb : bb < S.next) (hxb : xb < S.next) (gb : S.get bb = .cells tb.t39.enc) (gx : S.get xb = .cells s.e.t55.enc) :
    ∃ S', iter (G6 bb xb b.t31 (j : Int)) 1000000 [.v (.bool false), .v (.int .i64 0), .v (.int .i64 0)] S = some (.exit 2, [.v (.bool false), .v (.int .i64 (n6 tb.l s.tmp : Int)), .v (.int .i64 (tb.l.length : Int))], S') ∧ S'.floor = 0 ∧ S.next ≤ S'.next ∧ ∀ c, c < S.next → S'.get c = S.get c := by
  obtain ⟨vs, S', h1, rfl, h2, h3, h4⟩ := iter_inv 2 (F := G6 bb xb b.t31 (j : Int)) tb.l.length
    (fun k vs S' => vs = [.v (.bool false), .v (.int .i64 (n6 (tb.l.take k) s.tmp : Int)), .v (.int .i64 (k : Int))] ∧ S'.floor = 0 ∧ S.next ≤ S'.next ∧ ∀ c, c < S.next → S'.get c = S.get c)
    (fun k hk vs S' hI => by
      obtain ⟨rfl, h2, h3, h4⟩ := hI
      have hlt : ((k : Nat) : Int) < ((tb.l.length : Nat) : Int) := by omega
      have hcn := n6_le (tb.l.take k) s.tmp
      rw [List.length_take, Nat.min_eq_left (by omega)] at hcn
      have hx := hall tb.l[k] (List.getElem_mem hk)
      suffices ∃ T, G6 bb xb b.t31 (j : Int) [.v (.bool false), .v (.int .i64 (n6 (tb.l.take k) s.tmp : Int)), .v (.int .i64 (k : Int))] S' = some (.normal, [.v (.bool false), .v (.int .i64 (n6 (tb.l.take (k + 1)) s.tmp : Int)), .v (.int .i64 ((k : Int) + 1))], T) ∧ T.floor = 0 ∧ S.next ≤ T.next ∧ ∀ c, c < S.next → T.get c = S.get c by
        obtain ⟨T, e, c⟩ := this
        exact ⟨_, T, e, rfl, c⟩
      have gb' : S'.get bb = .cells tb.t39.enc := by rw [h4 _ hbb]; exact gb
      have gx' : S'.get xb = .cells s.e.t55.enc := by rw [h4 _ hxb]; exact gx
      have l34 : loadE (kt.at 6) 34 (.ptr bb 1) S' = some (sl tsc tb.l) := by rw [ld1 (ag34 (P_kt 6)) (sz34 (P_kt 6)) gb']; rfl
      have ix : indexAddrE (kt.at 6) 34 (sl tsc tb.l) (.v (.int .i64 (k : Int))) = some (.cp (tsc tb.l[k])) := index_sl (P_kt 6) Tryz.underlying34 size59' tsc tsc_len tb.l k hk .i64
      have ij : indexAddrE (kt.at 6) 23 b.t31.l (.v (.int .i64 (j : Int))) = some (.cp s.t57.enc) := by rw [← hs]; exact index_stmts (P_kt 6) .i64 b.l j hj
      rw [List.take_succ_eq_append_getElem hk, n6_snoc]
      generalize tb.l[k] = x at hx ix
      unfold G6
      simp only [openHd_v, openInt_v, openBool_v, l34, Option.bind_some, len_sl' (P_kt 6) Tryz.underlying34, splitB_dec]
      rw [if_pos hlt]
      simp only [if_pos (show bb < S'.next by omega), l34, ix, ij, Option.bind_some, openCp59', openCp57', gand]
      rw [show x.t59.kind = x.kind from rfl, show x.t59.tmp = x.tmp from rfl, show s.t57.tmp = s.tmp from rfl]
      rw [wrap_in (a := (k : Int) + 1) (by omega) (by omega)]
      cases hc : (x.kind == 2 && x.tmp == s.tmp) with
      | false =>
        simp only [openHd_v, openBool_v]
        rw [splitB_f]
        exact ⟨S', rfl, h2, h3, h4⟩
      | true =>
        simp only [openHd_v, openBool_v]
        rw [splitB_t, tstmt_e]
        simp only [Bool.and_eq_true, beq_iff_eq] at hc
        obtain ⟨q1, q2, q3, q4, q5⟩ := hx hc.1 hc.2
        rw [show (SObj.cells [(.v (.int .i64 (0 : Int))), (.v (.int .i64 (0 : Int))), (.v (.int .u32 (0 : Int))), (.v (.int .u32 (0 : Int))), (.v (.int .u32 (0 : Int))), (.v (.int .u32 (0 : Int))), (.v (.int .i64 (0 : Int))), (.v (.int .i64 (0 : Int))), (.v (.int .i64 (0 : Int))), (.v (.int .i64 (0 : Int))), (.v (.slice none 0 0))]) = .cells z37 from rfl]
        rw [store_box (sz37' (P_kt 6)) (by decide) (by omega) rfl (Tree.cells_len _)]
        have gy := boxed_self S' (.cells z37) (.cells x.e.cells)
        have kb := boxed_get S' (.cells z37) (.cells x.e.cells)
        have nb : (boxed S' (.cells z37) (.cells x.e.cells)).next = S'.next + 1 := rfl
        have fb : (boxed S' (.cells z37) (.cells x.e.cells)).floor = 0 := h2
        generalize boxed S' (.cells z37) (.cells x.e.cells) = T at gy kb nb fb
        have lx : ∀ off, loadE (kt.at 6) 3 (.ptr xb off) T = ((s.e.t55.enc).drop off).head? := fun off => ld1 (ag3 (P_kt 6)) (sz3 (P_kt 6)) (by rw [kb _ (by omega)]; exact gx')
        have ly : ∀ off, loadE (kt.at 6) 3 (.ptr S'.next off) T = ((x.e.cells).drop off).head? := fun off => ld1 (ag3 (P_kt 6)) (sz3 (P_kt 6)) gy
        have lx4 : loadE (kt.at 6) 53 (.ptr xb 4) T = some (atoms s.e.l) := by rw [ld1 (ag53 (P_kt 6)) (sz53 (P_kt 6)) (by rw [kb _ (by omega)]; exact gx')]; rfl
        have ly10 : loadE (kt.at 6) 35 (.ptr S'.next 10) T = some (sl Tree.cells x.e.l) := by rw [ld1 (ag35' (P_kt 6)) (sz35' (P_kt 6)) gy, cells_eq]; rfl
        refine gate_ex (c := false) ?_ ?_
        · rw [lx 0, lx 1, lx 2, lx 3, ly 6, ly 7, ly 8, ly 9, lx4, ly10, cells_eq]
          simp only [T55.enc, Expr.t55, List.drop_zero, List.drop_succ_cons, List.head?_cons, Option.bind_some, openInt_v, len_atoms (P_kt 6), len_sl' (P_kt 6) Tryz.underlying35, q1, q2, q3, q4, q5, bne_self_eq_false, splitB_f]
        · simp only [openHd_v, openBool_v, splitB_f]
          rw [wrap_in (by omega) (by omega)]
          exact ⟨T, rfl, fb, by omega, fun c hc => by rw [kb _ (by omega), h4 c hc]⟩)
    (fun vs S' hI => by
      obtain ⟨rfl, h2, h3, h4⟩ := hI
      have gb' : S'.get bb = .cells tb.t39.enc := by rw [h4 _ hbb]; exact gb
      have l34 : loadE (kt.at 6) 34 (.ptr bb 1) S' = some (sl tsc tb.l) := by rw [ld1 (ag34 (P_kt 6)) (sz34 (P_kt 6)) gb']; rfl
      unfold G6
      simp only [openHd_v, openInt_v, openBool_v, l34, Option.bind_some, len_sl' (P_kt 6) Tryz.underlying34, splitB_dec]
      rw [if_neg (by omega)])
    tb.l.length 0 rfl [.v (.bool false), .v (.int .i64 0), .v (.int .i64 0)] S 1000000 ⟨rfl, hf, Nat.le_refl _, fun _ _ => rfl⟩ (by omega)
  rw [List.take_length] at h1
  exact ⟨S', h1, h2, h3, h4⟩
set_option maxHeartbeats 1000000 in
theorem loopF6 (b : Block) (hn : b.l.length ≤ 100) (hB : ∀ s ∈ b.l, s.l.length ≤ 190000 ∧ s.e.l.length ≤ 190000) (tb : TBlock) (hBT : BT tb) (htl : ∀ x ∈ tb.l, x.l.length ≤ 900000) (hl : tb.l.length ≤ 900000) (hlv : (allL tb).length ≤ 900000)
    (hlaw : ∀ s ∈ b.l, s.kind = 2 → (∀ x ∈ tb.l, x.kind = 2 → x.tmp = s.tmp → sameE s x.e) ∧ (outS tb.l).Nodup ∧ (s.tmp ∉ outS tb.l → usesM b s.tmp = 1 ∧ withinM tb s.tmp = false))
    {bb : Nat} {S : St} (hf : S.floor = 0) (hbb : bb < S.next) (gb : S.get bb = .cells tb.t39.enc) :
    ∃ S', iter (F6 1000000 bb b.t31) 1000000 [.v (.bool false), .v (.int .i64 0)] S = some (.exit 0, [.v (.bool false), .v (.int .i64 (b.l.length : Int))], S') := by
  obtain ⟨vs, S', h1, rfl, _⟩ := iter_inv 0 (F := F6 1000000 bb b.t31) b.l.length
    (fun i vs S' => vs = [.v (.bool false), .v (.int .i64 (i : Int))] ∧ S'.floor = 0 ∧ bb < S'.next ∧ S'.get bb = .cells tb.t39.enc)
    (fun i hi vs S' hI => by
      obtain ⟨rfl, h2, h3, h4⟩ := hI
      have hlt : ((i : Nat) : Int) < ((b.l.length : Nat) : Int) := by omega
      have hb := hB b.l[i] (List.getElem_mem hi)
      have hlw := hlaw b.l[i] (List.getElem_mem hi)
      suffices ∃ T, F6 1000000 bb b.t31 [.v (.bool false), .v (.int .i64 (i : Int))] S' = some (.normal, [.v (.bool false), .v (.int .i64 ((i : Int) + 1))], T) ∧ T.floor = 0 ∧ bb < T.next ∧ T.get bb = .cells tb.t39.enc by
        obtain ⟨T, e, c⟩ := this
        exact ⟨_, T, e, rfl, c⟩
      have ij : indexAddrE (kt.at 6) 23 b.t31.l (.v (.int .i64 (i : Int))) = some (.cp b.l[i].t57.enc) := index_stmts (P_kt 6) .i64 b.l i hi
      have hlb : lenE (kt.at 6) 23 b.t31.l = some (.v (.int .i64 (b.l.length : Int))) := len_stmts (P_kt 6) b.l
      generalize hsx : b.l[i] = s at hb hlw ij
      unfold F6
      simp only [openHd_v, openInt_v, openBool_v, hlb, Option.bind_some, splitB_dec]
      rw [if_pos hlt]
      simp only [ij, Option.bind_some, openCp57']
      rw [show s.t57.kind = s.kind from rfl, wrap_in (a := (i : Int) + 1) (by omega) (by omega)]
      by_cases hk : s.kind = 2
      · have e1 : (s.kind != 2) = false := by simp [hk]
        rw [e1, splitB_f]
        obtain ⟨w1, w2, w3⟩ := hlw hk
        rw [show [(SV.v (.int .i64 s.t57.e_Kind)), (.v (.int .i64 s.t57.e_Ty)), (.v (.int .i64 s.t57.e_Op)), (.v (.int .i64 s.t57.e_Off)), s.t57.e_L] = s.e.t55.enc from rfl]
        rw [show (SObj.cells [(.v (.int .i64 (0 : Int))), (.v (.int .i64 (0 : Int))), (.v (.int .i64 (0 : Int))), (.v (.int .i64 (0 : Int))), (.v (.slice none 0 0))]) = .cells z55 from rfl]
        rw [store_box (sz55 (P_kt 6)) (by decide) (by omega) rfl rfl]
        have gx := boxed_self S' (.cells z55) (.cells s.e.t55.enc)
        have kb := boxed_get S' (.cells z55) (.cells s.e.t55.enc)
        have nb : (boxed S' (.cells z55) (.cells s.e.t55.enc)).next = S'.next + 1 := rfl
        have fb : (boxed S' (.cells z55) (.cells s.e.t55.enc)).floor = 0 := h2
        generalize boxed S' (.cells z55) (.cells s.e.t55.enc) = T at gx kb nb fb
        obtain ⟨T2, e2, f2, n2, k2⟩ := loopG6 b i hi s hsx tb hl w1 (bb := bb) (xb := S'.next) fb (by omega) (by omega) (by rw [kb _ h3]; exact h4) gx
        rw [e2]
        simp only [Option.bind_some, openHd_v, openInt_v, openBool_v, exits_exit, if_true]
        have hbb2 : bb < T2.next := by omega
        have gb2 : T2.get bb = .cells tb.t39.enc := by rw [k2 _ (by omega), kb _ h3]; exact h4
        have l39 : loadE (kt.at 6) 39 (.ptr bb 0) T2 = some (.agg tb.t39.enc) := ldN (agg_st (P_kt 6) Tryz.underlying39) (sz39 (P_kt 6)) gb2 rfl
        have hn1 : n6 tb.l s.tmp ≤ 1 := n6_one w2
        have hno : ¬ ((n6 tb.l s.tmp : Nat) : Int) > 1 := by omega
        refine gate_ex (c := false) ?_ ?_
        · rw [if_neg hno, decide_eq_true hbb2]
          by_cases h0 : n6 tb.l s.tmp = 0
          · obtain ⟨u1, u2⟩ := w3 (n6_zero h0)
            rw [h0]
            rw [show (((0 : Nat) : Int) == 0) = true from rfl, splitB_t, show s.t57.tmp = s.tmp from rfl, spec26 b s.tmp (by omega) hB]
            simp only [Option.bind_some, openInt_v, u1]
            rw [show ((1 : Int) != 1) = false from rfl, splitB_f, if_pos hbb2, l39]
            simp only [Option.bind_some]
            rw [show ∀ (t : T39) (K : cd39.α → Option (List SV)), openAgg cd39 (.agg t.enc) K = K t from fun t K => rfl]
            rw [spec27 tb s.tmp hBT htl hlv, u2]
            rfl
          · have e3 : ((n6 tb.l s.tmp : Int) == 0) = false := by simp; omega
            rw [e3, splitB_f, if_pos rfl]
        · simp only [openHd_v, openBool_v, splitB_f]
          exact ⟨T2, rfl, f2, hbb2, gb2⟩
      · have e1 : (s.kind != 2) = true := by simpa using hk
        rw [e1, splitB_t]
        exact ⟨S', rfl, h2, h3, h4⟩)
    (fun vs S' hI => by
      obtain ⟨rfl, _⟩ := hI
      have hlb : lenE (kt.at 6) 23 b.t31.l = some (.v (.int .i64 (b.l.length : Int))) := len_stmts (P_kt 6) b.l
      unfold F6
      simp only [openHd_v, openInt_v, openBool_v, hlb, Option.bind_some, splitB_dec]
      rw [if_neg (by omega)])
    b.l.length 0 rfl [.v (.bool false), .v (.int .i64 0)] S 1000000 ⟨rfl, hf, hbb, gb⟩ (by omega)
  exact ⟨S', h1⟩

/-- TreeOnce. -/
theorem once_run {b : Block} (h : InB b) : ∃ S', run kt (.func 6 [] []) [.agg b.t31.enc] St0 = some (.v (.bool true), S') := by
  refine ⟨St0, closed_bool h6 1000000 rfl (fn_kt 6 fn6) rfl ?_⟩
  simp only [List.map_cons, List.map_nil, block_ws]
  rw [tell6, run12b]
  simp only [Option.bind_some, openBool_v, Bool.not_true, splitB_f]
  obtain ⟨c, e13, hc⟩ := spec13i h St0
  obtain ⟨b1, b2, b3⟩ := inB_len h
  have hlb : lenE (kt.at 6) 23 b.t31.l = some (.v (.int .i64 (b.l.length : Int))) := len_stmts (P_kt 6) b.l
  rw [e13, hlb]
  simp only [Option.bind_some, openBool_v, openInt_v]
  by_cases hgo : c = true ∧ b.l.length ≤ 100 ∧ errB b = 0
  · obtain ⟨rfl, h100, herr⟩ := hgo
    obtain ⟨l1, l2, l3, l4⟩ := hc rfl
    have hB := small_bnd h l2
    have hBd : ∀ s ∈ b.l, s.l.length ≤ 190000 ∧ s.e.l.length ≤ 190000 := fun s hs => (hB s hs).1
    have hBT := buildR_BT b fun s hs => by have := hBd s hs; omega
    rw [spec23 b hB (by omega) (by omega) (by omega), herr]
    simp only [Bool.not_true, splitB_f, splitB_dec, Option.bind_some, openInt_v]
    rw [if_neg (by omega)]
    rw [show ((0 : Int) != 0) = false from rfl]
    simp only [Option.bind_some, openHd_v, openBool_v, splitB_f]
    have ho : ∀ {Z : Type} (t : T39) (K : cd39.α → Option Z), openAgg cd39 (.agg t.enc) K = K t := fun _ _ => rfl
    rw [spec14 b hB (by omega) (by omega) (by omega) h.next, build_eq]
    simp only [Option.bind_some, openTup, openHd_v, ho, openInt_v, openNil]
    rw [show (SObj.cells [(.v (.slice none 0 0)), (.v (.slice none 0 0)), (.v (.int .i64 (0 : Int))), (.v (.int .i64 (0 : Int))), (.v (.int .u32 (0 : Int))), (.v (.int .u32 (0 : Int))), (.v (.int .u32 (0 : Int))), (.v (.int .u32 (0 : Int))), (.v (.int .i64 (0 : Int))), (.v (.int .i64 (0 : Int))), (.v (.int .i64 (0 : Int))), (.v (.int .i64 (0 : Int))), (.v (.slice none 0 0)), (.v (.int .i64 (0 : Int))), (.v (.slice none 0 0))]) = .cells z39 from rfl]
    rw [store_box (sz39 (P_kt 6)) (by decide) (Nat.zero_le _) rfl rfl]
    have e2 : (buildR b).2 = 0 := by unfold buildR; rw [if_neg (by simpa using herr)]
    rw [e2, show ((0 : Int) != 0) = false from rfl, splitB_f]
    have hbl : (buildR b).1.l.length ≤ 300 := by
      have hbuild : buildR b = (⟨b.tmps, (stB b b.l).1, (pickR b.next.tmp (leafT b.next) (stB b b.l).2).1, b.jump, b.spans⟩, 0) := by
        unfold buildR; rw [if_neg (by simpa using herr)]
      have hbnd := stB_bnd b (fun s hs => by have := hBd s hs; omega) b.l.length (Nat.le_refl _)
      rw [List.take_length] at hbnd
      rw [hbuild]
      show (stB b b.l).1.length ≤ 300
      omega
    have hlv := build_leaves herr
    obtain ⟨S', e⟩ := loopF6 b h100 hBd (buildR b).1 hBT (fun x hx => by
        have := build_parts herr x hx
        omega) (by omega) (by omega) (fun s hs hk => once_law herr s hs hk) (bb := St0.next) (S := boxed St0 (.cells z39) (.cells (buildR b).1.t39.enc)) rfl (by rw [boxed_next]; omega) (boxed_self _ _ _)
    rw [e]
    simp only [Option.bind_some, openHd_v, openInt_v, openBool_v, exits_exit, if_true]
    exact exB _ _
  · refine exB_bindq (c := true) ?_ ?_
    · cases c with
      | false => simp only [Bool.not_false, splitB_t]
      | true =>
        obtain ⟨l1, l2, l3, l4⟩ := hc rfl
        simp only [Bool.not_true, splitB_f, splitB_dec]
        by_cases h100 : (b.l.length : Int) > 100
        · rw [if_pos h100]
        · rw [if_neg h100, spec23 b (small_bnd h l2) (by omega) (by omega) (by omega)]
          have : errB b ≠ 0 := fun he => hgo ⟨rfl, by omega, he⟩
          simp only [Option.bind_some, openInt_v]
          rw [show (errB b != 0) = true by simpa using this]
    · simp only [openHd_v, openBool_v, splitB_t]
      exact exB _ _
end Go.Sv
end
