/- Parts of the proofs of this seat's laws. -/
import Derived.Test.YtkflapebfmcmaaaGreatBOnce43
section
namespace Go.Sv
open Go Go.Proofs Go.Proofs.YtkflapebfmcmaaaGreat
set_option linter.all false
set_option maxRecDepth 100000

theorem o92_len (tm sp yL : SV) (t : Tree) (j : Int) (um : Nat) (yw : SV) : (o92 tm sp yL t j um yw).length = 17 := rfl
theorem o92_16 (tm sp yL : SV) (t : Tree) (j : Int) (um : Nat) (yw : SV) : ((o92 tm sp yL t j um yw).drop 16).head? = some yw := rfl
theorem o92_15 (tm sp yL : SV) (t : Tree) (j : Int) (um : Nat) (yw : SV) : ((o92 tm sp yL t j um yw).drop 15).head? = some (.map um) := rfl
theorem o92_1 (tm sp yL : SV) (t : Tree) (j : Int) (um : Nat) (yw : SV) : ((o92 tm sp yL t j um yw).drop 1).head? = some yL := rfl
theorem o92_s1 (tm sp yL : SV) (t : Tree) (j : Int) (um : Nat) (yw y : SV) : splice (o92 tm sp yL t j um yw) 1 [y] = o92 tm sp y t j um yw := rfl
theorem o92_s16 (tm sp yL : SV) (t : Tree) (j : Int) (um : Nat) (yw y : SV) : splice (o92 tm sp yL t j um yw) 16 [y] = o92 tm sp yL t j um y := rfl
theorem o92_s2 (tm sp yL : SV) (t : Tree) (j : Int) (um : Nat) (yw : SV) (t' : Tree) : splice (o92 tm sp yL t j um yw) 2 t'.cells = [tm, yL] ++ t'.cells ++ [.v (.int .i64 j), sp, .map um, yw] := by unfold o92; rw [cells_eq t']; rfl
theorem ag90 {k : K} (hP : k.P = Tryz.prog) : agg? k 90 = some false := by unfold agg?; rw [hP, Tryz.underlying90]
theorem sz90 {k : K} (hP : k.P = Tryz.prog) : size? k 90 = some 1 := size_of hP (by kernel_rfl)
def z98 : List SV := [(.v (.int .i64 (0 : Int))), (.v (.int .i64 (0 : Int))), (.v (.int .i64 (0 : Int))), (.v (.int .u32 (0 : Int))), (.v (.int .u32 (0 : Int))), (.v (.int .u32 (0 : Int))), (.v (.int .u32 (0 : Int))), (.v (.int .i64 (0 : Int))), (.v (.int .i64 (0 : Int))), (.v (.int .i64 (0 : Int))), (.v (.int .i64 (0 : Int))), (.v (.slice none 0 0))]
theorem bytes60s : ∃ n, bytes? (kt.at 60) 59 = some n ∧ n ≠ 0 ∧ n ≤ 1000 := bytesU (by kernel_rfl)
theorem bytes60w : ∃ n, bytes? (kt.at 60) 98 = some n ∧ n ≠ 0 ∧ n ≤ 1000 := bytesU (by kernel_rfl)
theorem zero60s : ∃ z, zero? (kt.at 60) 59 = some z ∧ z.length = 19 := zlenU (by kernel_rfl)
theorem zero60w : ∃ z, zero? (kt.at 60) 98 = some z ∧ z.length = 12 := zlenU (by kernel_rfl)
theorem inbox60 : (kt.at 60).inBox 98 = 1 := by kernel_rfl
theorem room1 (n m : Nat) (h1 : n ≤ 1000000) (h2 : m ≤ 1000) : n * m ≤ room := by
  have : n * m ≤ 1000000 * 1000 := Nat.mul_le_mul h1 h2
  simp only [room]; omega
theorem openAgg98 {Z : Type} (p : Int × Tree) (K : cd98.α → Option Z) : openAgg cd98 (.agg (wc p)) K = K (w98 p) := by rw [← w98_enc]; rfl
theorem setT_cellsY (p : Int × Tree) : [(SV.v (.int .i64 (2 : Int))), (.v (.int .i64 p.1)), (.v (.int .i64 (0 : Int))), (.v (.int .i64 (0 : Int))), (.v (.int .i64 (0 : Int))), (.v (.int .u32 (0 : Int))), (.v (.int .u32 (0 : Int))), (.v (.int .i64 p.2.t37.a_Tmp)), (.v (.int .i64 p.2.t37.a_Ty)), (.v (.int .u32 p.2.t37.a_C0)), (.v (.int .u32 p.2.t37.a_C1)), (.v (.int .u32 p.2.t37.a_C2)), (.v (.int .u32 p.2.t37.a_C3)), (.v (.int .i64 p.2.t37.kind)), (.v (.int .i64 p.2.t37.ty)), (.v (.int .i64 p.2.t37.op)), (.v (.int .i64 p.2.t37.off)), p.2.t37.l, (.v (.slice none 0 0))] = tscY (setT p, .v (.slice none 0 0)) := by
  rw [t37_eq]; rfl

/-- The loop of settle. -/
structure IS (tmps : List Int) (u : T59) (b0 : Nat) (tm sp : SV) (j : Int) (um : Nat) (yw : SV) (w : Wt) (lo c m n2 : Nat) (S0 : St) (O : List TStmt) (W : Wt) (y : SV) (S : St) : Prop where
  fl : S.floor = 0
  nx : n2 ≤ S.next
  box : ∃ yL raw, S.get b0 = .cells (o92 tm sp yL zT j um yw) ∧ RawY raw O ∧ AccL tscY 19 lo raw yL S
  arr : ArrL lo w yw S
  karr : ArrL n2 W y S
  fr : FrB b0 S0 S
  gc : S.get c = .cells [.map m]
  gm : S.get m = .map (dis u b0)
theorem IS.keep {tmps : List Int} {u : T59} {b0 : Nat} {tm sp : SV} {j : Int} {um : Nat} {yw : SV} {w : Wt} {lo c m n2 : Nat} {S0 : St} {O : List TStmt} {W : Wt} {y : SV} {S S' : St} (h : IS tmps u b0 tm sp j um yw w lo c m n2 S0 O W y S) (hb : b0 < n2) (hc : c < n2) (hm : m < n2) (hf : S'.floor = S.floor) (hn : S.next ≤ S'.next) (hg : ∀ i, i < S.next → S'.get i = S.get i) : IS tmps u b0 tm sp j um yw w lo c m n2 S0 O W y S' := by
  obtain ⟨f, n, ⟨yL, raw, g, r, a⟩, ar, ka, fr, gc, gm⟩ := h
  exact ⟨by rw [hf, f], by omega, ⟨yL, raw, by rw [hg _ (by omega)]; exact g, r, accL_frame a hf hn fun c hc _ => hg c hc⟩, arrL_frame ar hf hn fun c _ hc _ => hg c hc, arrL_frame ka hf hn fun c _ hc _ => hg c hc, fr.trans (FrB.of b0 hf hn hg), by rw [hg _ (by omega)]; exact gc, by rw [hg _ (by omega)]; exact gm⟩

set_option maxHeartbeats 1000000 in
theorem spec60 (tmps : List Int) (x : TStmt) (yl : SV) (g : GS x yl) {b0 : Nat} {tm sp : SV} (htm : weak (shut tm) = nums tmps) {j : Int} {um : Nat} {out : List TStmt} {w : Wt} {lo : Nat} {S : St} (h : BS b0 tm sp j um out w lo S) (hw : ∀ p ∈ w, TG p.2) (hlen : out.length + w.length ≤ 900000) :
    ∃ S', run kt (.func 60 [] []) [.ptr b0 0, .agg (rawT x yl).enc] S = some (.tuple [], S') ∧ BS b0 tm sp j um (out ++ (w.filter fun p => anyN (distT tmps x) p.2).map setT) (w.filter fun p => !anyN (distT tmps x) p.2) lo S' ∧ FrB b0 S S' := by
  suffices ∃ S', cBody (kt.at 60) h60 (run kt) 1000000 (compF Tryz.f60) [.ptr b0 0, .agg (rawT x yl).enc] S = some (.tuple [], S') ∧ BS b0 tm sp j um (out ++ (w.filter fun p => anyN (distT tmps x) p.2).map setT) (w.filter fun p => !anyN (distT tmps x) p.2) lo S' ∧ FrB b0 S S' by
    obtain ⟨S', h1, h2⟩ := this
    exact ⟨S', go_plain ks_kt (f := 60) (fst := []) (cap := []) (args := [.ptr b0 0, .agg (rawT x yl).enc]) (S := S) h60 1000000 rfl (fn_kt 60 fn60) rfl h1, h2⟩
  rw [tell60]
  obtain ⟨f, hb0, hlo, yL, raw, yw, gb, r, a, ar⟩ := h
  obtain ⟨S1, r1, gm, n1, f1, k1⟩ := spec126 (rawT x yl) b0 S (by omega)
  rw [r1, Option.bind_some]
  have hn1 : S1.next = S.next + 1 := n1
  generalize hm : S.next = m at *
  rw [st1 (S := S1.alloc (.cells [.v (.map none)])) (sz164 (P_kt 60)) (cs := [.v (.map none)]) (by simp [St.alloc]) (by show S1.floor ≤ S1.next; omega) (by simp) rfl]
  have hS2 : ∃ S2, ((S1.alloc (.cells [.v (.map none)])).put S1.next (.cells (splice [.v (.map none)] 0 [.map m]))) = S2 ∧ S2.get (m + 1) = .cells [.map m] ∧ S2.floor = 0 ∧ S2.next = m + 2 ∧ ∀ c, c < m + 1 → S2.get c = S1.get c := by
    refine ⟨_, rfl, by rw [hn1]; exact put_get _ _ _, by show S1.floor = 0; omega, by show S1.next + 1 = _; omega, fun c hc => ?_⟩
    rw [get_put _ _ _ _ (by omega), get_new _ _ _ (by omega)]
  obtain ⟨S2, e2, gc, f2, n2, k2⟩ := hS2
  rw [e2, hn1]
  clear e2
  have hk2 : ∀ c, c < m → S2.get c = S.get c := fun c hc => by rw [k2 c (by omega), k1 c hc]
  have inv0 : IS tmps (rawT x yl) b0 tm sp j um yw w lo (m + 1) m (m + 2) S out [] (.v (.slice none 0 0)) S2 := by
    refine ⟨f2, by omega, ⟨yL, raw, by rw [hk2 _ (by omega)]; exact gb, r, accL_frame a (by omega) (by omega) fun c hc _ => hk2 c (by omega)⟩, arrL_frame ar (by omega) (by omega) fun c _ hc _ => hk2 c (by omega), .inl ⟨rfl, rfl⟩, FrB.of b0 (by omega) (by omega) fun c hc => hk2 c (by omega), gc, by rw [k2 _ (by omega)]; exact gm⟩
  rw [ld1 (ag90 (P_kt 60)) (sz90 (P_kt 60)) (by rw [hk2 _ (by omega)]; exact gb), o92_16, Option.bind_some, arrL_len (P_kt 60) ar]
  simp only [Option.bind_some, openInt_v, splitB_dec]
  obtain ⟨bs, hbs, bs0, bs1⟩ := bytes60s
  obtain ⟨bw, hbw, bw0, bw1⟩ := bytes60w
  obtain ⟨zs, hzs, zsl⟩ := zero60s
  obtain ⟨zw, hzw, zwl⟩ := zero60w
  have hyw : ∀ b n, yw = .arr b n → b < m + 2 := by
    intro b n e
    rcases ar with ⟨_, rfl⟩ | ⟨b', rfl, _, _, h, _⟩
    · cases e
    · cases e; omega
  clear gb r a k1 k2 gm gc hk2
  generalize hF : (fun vs0 S1 => _ : List SV → St → Option (Ex × List SV × St)) = F
  obtain ⟨vs, S3, h3, y, rfl, inv⟩ := iter_inv 0 (F := F) w.length
    (fun i vs S' => ∃ y, vs = [y, .v (.int .i64 (i : Int))] ∧ IS tmps (rawT x yl) b0 tm sp j um yw w lo (m + 1) m (m + 2) S (out ++ ((w.take i).filter fun p => anyN (distT tmps x) p.2).map setT) ((w.take i).filter fun p => !anyN (distT tmps x) p.2) y S')
    (fun i hi vs S' hI => by
      obtain ⟨y, rfl, inv⟩ := hI
      have hlt : ((i : Nat) : Int) < ((w.length : Nat) : Int) := by omega
      obtain ⟨bi, ix, gi, _, _, _, ywe⟩ := arrL_index (P_kt 60) inv.arr i hi
      have hp := hw w[i] (List.getElem_mem hi)
      rw [List.take_succ_eq_append_getElem hi, filt_snoc, filt_snoc]
      have hf1 : ((w.take i).filter fun p => anyN (distT tmps x) p.2).length ≤ i := by
        refine Nat.le_trans (List.length_filter_le _ _) ?_
        rw [List.length_take]; exact Nat.min_le_left _ _
      have hf2 : ((w.take i).filter fun p => !anyN (distT tmps x) p.2).length ≤ i := by
        refine Nat.le_trans (List.length_filter_le _ _) ?_
        rw [List.length_take]; exact Nat.min_le_left _ _
      rw [← hF]
      simp only [openHd_v, openInt_v]
      rw [if_pos hlt, ix]
      simp only [Option.bind_some, openPtr]
      rw [arr_load (P_kt 60) gi i hi]
      generalize w[i] = p at hp
      simp only [Option.bind_some, openAgg98]
      rw [w98_enc]
      rw [show (S'.alloc (.cells [(.v (.int .i64 (0 : Int))), (.v (.int .i64 (0 : Int))), (.v (.int .i64 (0 : Int))), (.v (.int .u32 (0 : Int))), (.v (.int .u32 (0 : Int))), (.v (.int .u32 (0 : Int))), (.v (.int .u32 (0 : Int))), (.v (.int .i64 (0 : Int))), (.v (.int .i64 (0 : Int))), (.v (.int .i64 (0 : Int))), (.v (.int .i64 (0 : Int))), (.v (.slice none 0 0))])) = S'.alloc (.cells z98) from rfl]
      have hfl : S'.floor ≤ S'.next := by rw [inv.fl]; omega
      have hn := inv.nx
      rw [store_box (sz98 (P_kt 60)) (by decide) hfl rfl (wc_len _), load_box (agg_st (P_kt 60) Tryz.underlying98) (sz98 (P_kt 60)) (wc_len _)]
      simp only [Option.bind_some, openAgg98]
      rw [w98_enc]
      have inv1 := inv.keep (S' := boxed S' (.cells z98) (.cells (wc p))) (by omega) (by omega) (by omega) rfl (by rw [boxed_next]; omega) (fun c hc => boxed_get S' _ _ c hc)
      have gx1 := boxed_self S' (.cells z98) (.cells (wc p))
      have nx1 : (boxed S' (.cells z98) (.cells (wc p))).next = S'.next + 1 := rfl
      generalize boxed S' (.cells z98) (.cells (wc p)) = T1 at inv1 gx1 nx1
      generalize S'.next = xb at gx1 nx1 hn
      clear inv gi hfl
      have hd : HasD tmps (rawT x yl) b0 (m + 1) m T1 := by
        obtain ⟨f, n, ⟨yL, raw, g, r, a⟩, ar, ka, fr, gc, gm⟩ := inv1
        exact ⟨by omega, gc, by omega, gm, by omega, tm, _, g, htm⟩
      obtain ⟨T2, q1, q2, q3, q4⟩ := spec127 tmps x yl g p hp (by rw [inv1.fl]; omega) hd
      rw [q1]
      simp only [Option.bind_some, openBool_v]
      have inv2 := inv1.keep (S' := T2) (by omega) (by omega) (by omega) q2 q3 q4
      have gx2 : T2.get xb = .cells (wc p) := by rw [q4 xb (by omega)]; exact gx1
      have nx2 : xb < T2.next := by omega
      clear inv1 gx1 nx1 hd q1 q2 q3 q4 T1
      rw [wrap_in (by omega) (by omega)]
      obtain ⟨f, n, ⟨yL, raw, g, r, a⟩, ar, ka, fr, gc, gm⟩ := inv2
      have hrl : raw.length = out.length + ((w.take i).filter fun p => anyN (distT tmps x) p.2).length := by
        have := congrArg List.length r.1
        simpa using this
      cases hd : anyN (distT tmps x) p.2 with
      | true =>
        rw [splitB_t, if_pos (by omega), ld1 (ag34 (P_kt 60)) (sz34 (P_kt 60)) g, o92_1, Option.bind_some, if_pos nx2, ld1 (ag3 (P_kt 60)) (sz3 (P_kt 60)) gx2]
        have l37 : loadE (kt.at 60) 37 (.ptr xb 1) T2 = some (.agg p.2.cells) := by
          simp only [loadE, agg_st (P_kt 60) Tryz.underlying37, sz37' (P_kt 60), gx2, Option.bind_some, objCells, takeVal, if_true]
          rw [show (wc p).drop 1 = p.2.cells from rfl, if_pos (by rw [Tree.cells_len]; omega), ← Tree.cells_len p.2, List.take_length]
        simp only [wc, List.drop_zero, List.head?_cons, Option.bind_some, openInt_v]
        rw [if_pos nx2, l37]
        simp only [Option.bind_some, openAgg37']
        rw [setT_cellsY]
        obtain ⟨yL', T3, a1, a2, a3, a4, a5, a6⟩ := accL_append tscY_len (elem_of (P_kt 60) Tryz.underlying34) (sz59 (P_kt 60)) hbs hzs (by decide) bs0 zsl (by decide) a (setT p, .v (.slice none 0 0)) (room1 _ _ (by omega) bs1)
        rw [a1]
        simp only [Option.bind_some]
        rw [st1 (sz34 (P_kt 60)) (b := b0) (cs := o92 tm sp yL zT j um yw) (by rw [a6 b0 (by omega) (by rw [g]; simp)]; exact g) (by omega) (by rw [o92_len]; omega) (accL_single a2), o92_s1]
        rw [if_pos (by show T2.next ≤ T3.next; omega)]
        refine ⟨_, _, rfl, y, rfl, ?_⟩
        simp only [if_true, Bool.not_true, Bool.false_eq_true, if_false]
        refine ⟨by show T3.floor = 0; omega, by show m + 2 ≤ T3.next; omega, ⟨yL', raw ++ [(setT p, .v (.slice none 0 0))], put_get _ _ _, ?_, ?_⟩, ?_, ?_, ?_, ?_, ?_⟩
        · rw [List.map_append, ← List.append_assoc]
          exact r.snoc (setT p, .v (.slice none 0 0)) (.inr ⟨rfl, .inl rfl⟩)
        · exact accL_keep a2 rfl (Nat.le_refl _) fun c hc _ => get_put _ _ _ _ (by omega)
        · exact arrL_frame ar a3 (by show T2.next ≤ T3.next; omega) fun c h1 h2 h3 => by
            rw [get_put _ _ _ _ (by omega), a6 c h2 (by rw [h3]; simp)]
        · exact arrL_frame ka a3 (by show T2.next ≤ T3.next; omega) fun c h1 h2 h3 => by
            rw [get_put _ _ _ _ (by omega), a6 c h2 (by rw [h3]; simp)]
        · exact fr.trans ⟨a3, by show T2.next ≤ T3.next; omega, fun c hc h0 h1 _ => by rw [get_put _ _ _ _ h0, a6 c hc h1]⟩
        · rw [get_put _ _ _ _ (by omega), a6 _ (by omega) (by rw [gc]; simp)]; exact gc
        · rw [get_put _ _ _ _ (by omega), a6 _ (by omega) (by rw [gm]; simp)]; exact gm
      | false =>
        rw [splitB_f, ldN (agg_st (P_kt 60) Tryz.underlying98) (sz98 (P_kt 60)) gx2 (wc_len p), Option.bind_some, openAgg98, w98_enc]
        obtain ⟨y', T3, a1, a2, a3, a4, a5⟩ := arr_append (k := kt.at 60) (elem_of (P_kt 60) Tryz.underlying90) (sz98 (P_kt 60)) hbw hzw bw0 zwl inbox60 (by omega) n ka p (room1 _ _ (by omega) bw1)
        rw [a1]
        simp only [Option.bind_some]
        refine ⟨_, _, rfl, y', rfl, ?_⟩
        simp only [Bool.not_false, Bool.false_eq_true, if_false, if_true]
        refine ⟨by omega, by omega, ⟨yL, raw, ?_, r, ?_⟩, ?_, a2, ?_, ?_, ?_⟩
        · rw [a5 b0 (by omega) (.inl (by omega))]; exact g
        · exact accL_frame a a3 (by omega) fun c h1 h2 => a5 c h1 (.inr (by rw [h2]; simp))
        · rcases ar with h | ⟨b', e', g', b1', b2', b3'⟩
          · exact .inl h
          · exact .inr ⟨b', e', by rw [a5 b' b2' (.inl (hyw b' _ e')), g'], b1', by omega, by omega⟩
        · exact fr.trans ⟨a3, by omega, fun c hc h0 _ h2 => a5 c hc (.inr h2)⟩
        · rw [a5 _ (by omega) (.inl (by omega))]; exact gc
        · rw [a5 _ (by omega) (.inl (by omega))]; exact gm)
    (fun vs S' hI => by
      obtain ⟨y, rfl, inv⟩ := hI
      rw [← hF]
      simp only [openHd_v, openInt_v]
      rw [if_neg (by omega)])
    w.length 0 rfl [.v (.slice none 0 0), .v (.int .i64 0)] S2 1000000 ⟨_, rfl, by rw [List.take_zero]; simpa using inv0⟩ (by omega)
  rw [h3]
  rw [List.take_length] at inv
  obtain ⟨f, n, ⟨yL, raw, g, r, a⟩, ar, ka, fr, gc, gm⟩ := inv
  simp only [Option.bind_some, openHd_v, openInt_v, exits_exit, if_true]
  rw [st1 (sz90 (P_kt 60)) (b := b0) g (by omega) (by rw [o92_len]; omega) (arrL_single ka), o92_s16]
  refine ⟨_, rfl, ⟨f, hb0, by show lo ≤ S3.next; omega, yL, raw, y, put_get _ _ _, r, ?_, ?_⟩, ?_⟩
  · exact accL_keep a rfl (Nat.le_refl _) fun c hc _ => get_put _ _ _ _ (by omega)
  · rcases ka with h | ⟨b, e, gg, b1, b2, b3⟩
    · exact .inl h
    · exact .inr ⟨b, e, by rw [get_put _ _ _ _ (by omega)]; exact gg, by omega, b2, b3⟩
  · exact fr.trans ⟨rfl, Nat.le_refl _, fun c _ h0 _ _ => get_put _ _ _ _ h0⟩
end Go.Sv
end
section
namespace Go.Sv
open Go Go.Proofs
set_option linter.all false
set_option maxRecDepth 1000000
set_option maxHeartbeats 0
def h124 : H := { hh with live := fun b => match b with  | _ => [], keep := fun b => match b with  | _ => none }
theorem tell124 (N : Nat) (u0 : T98) (u1 : T28) : cBody (kt.at 124) h124 (run kt) N (compF Tryz.f124) [.agg u0.enc, .cp u1.enc] St0 = (some ((.v (.bool (u0.tmp == u1.tmp))), St0)) := by kernel_rfl
theorem fn124 : fnsK 124 = some (compF Tryz.f124) := by kernel_rfl
def h123 : H := { hh with live := fun b => match b with | 0 => [(4, 1), (8, 1)] | _ => [], keep := fun b => match b with  | _ => none }
theorem tell123 (N : Nat) (b n : Nat) (g1 : Nat) (f1 x1 : List SV) (S : St) : cBody (kt.at 123) h123 (run kt) N (compF Tryz.f123) [.arr b n, .func g1 f1 x1] S = (iter (fun vs0 S1 => openHd vs0 fun y2 r3 => openInt y2 fun a4 => openHd r3 fun y5 r6 => openInt y5 fun a7 => (splitB (.v (.bool (decide (a7 < ((n : Nat) : Int)))))
 ((indexAddrE (kt.at 123) 90 (.arr b n) (.v (.int .i64 a7))).bind fun r8 => openPtr r8 fun b9 o10 => (loadE (kt.at 123) 98 (.ptr b9 o10) S1).bind fun r11 => openAgg cd98 r11 fun t12 => (run kt (.func g1 f1 x1) [(.agg t12.enc)] S1).bind fun p13 => openBool p13.1 fun b14 => (splitB (.v (.bool b14))
 ((some (.ret, ([(.v (.int .i64 a7)), (.v (.int .i64 a7))], p13.2))))
 ((some (.normal, ([(.v (.int .i64 a4)), (.v (.int .i64 (IntKind.wrap .i64 (a7 + (1 : Int)))))], p13.2))))))
 ((some ((.exit 0), ([(.v (.int .i64 a4)), (.v (.int .i64 a7))], S1)))))) N [(.v (.int .i64 (0 : Int))), (.v (.int .i64 (0 : Int)))] S).bind fun q15 => openHd q15.2.1 fun y16 r17 => openInt y16 fun a18 => openHd r17 fun y19 r20 => openInt y19 fun a21 => (exits q15.1 (fun i22 => (if i22 = 0 then (some ((.v (.int .i64 (-(1 : Int)))), q15.2.2)) else none)) ((some ((.v (.int .i64 a18)), q15.2.2)))) := by kernel_rfl
theorem fn123 : fnsK 123 = some (compF Tryz.f123) := by kernel_rfl
def h59 : H := { hh with live := fun b => match b with  | _ => [], keep := fun b => match b with  | _ => none }
theorem tell59 (N : Nat) (b0 : Nat) (u1 : T28) (S : St) : cBody (kt.at 59) h59 (run kt) N (compF Tryz.f59) [.ptr b0 0, .agg u1.enc] S = (loadE (kt.at 59) 90 (.ptr b0 16) (St.alloc S (.cells [(.v (.int .i64 (0 : Int))), (.v (.int .i64 (0 : Int))), (.v (.int .u32 (0 : Int))), (.v (.int .u32 (0 : Int))), (.v (.int .u32 (0 : Int))), (.v (.int .u32 (0 : Int))), (.v (.int .i64 (0 : Int))), (.v (.int .i64 (0 : Int))), (.v (.int .i64 (0 : Int))), (.v (.int .i64 (0 : Int))), (.v (.slice none 0 0))]))).bind fun r0 => (run kt (.func 123 [] []) [r0, (.func 124 [] [(.cp u1.enc)])] (St.alloc S (.cells [(.v (.int .i64 (0 : Int))), (.v (.int .i64 (0 : Int))), (.v (.int .u32 (0 : Int))), (.v (.int .u32 (0 : Int))), (.v (.int .u32 (0 : Int))), (.v (.int .u32 (0 : Int))), (.v (.int .i64 (0 : Int))), (.v (.int .i64 (0 : Int))), (.v (.int .i64 (0 : Int))), (.v (.int .i64 (0 : Int))), (.v (.slice none 0 0))]))).bind fun p1 => openInt p1.1 fun a2 => (splitB (.v (.bool (decide (a2 < (0 : Int)))))
 ((run kt (.func 67 [] []) [(.agg u1.enc)] p1.2).bind fun p3 => openAgg cd37 p3.1 fun t4 => storeK (kt.at 59) 37 (.ptr (St.next S) 0) (.agg t4.enc) p3.2 fun S5 => (loadE (kt.at 59) 37 (.ptr (St.next S) 0) S5).bind fun r6 => (some (r6, S5)))
 ((loadE (kt.at 59) 90 (.ptr b0 16) p1.2).bind fun r7 => (indexAddrE (kt.at 59) 90 r7 (.v (.int .i64 a2))).bind fun r8 => openPtr r8 fun b9 o10 => (loadE (kt.at 59) 37 (.ptr b9 (o10 + 1)) p1.2).bind fun r11 => openAgg cd37 r11 fun t12 => storeK (kt.at 59) 37 (.ptr (St.next p1.2) 0) (.agg t12.enc) (St.alloc p1.2 (.cells [(.v (.int .i64 (0 : Int))), (.v (.int .i64 (0 : Int))), (.v (.int .u32 (0 : Int))), (.v (.int .u32 (0 : Int))), (.v (.int .u32 (0 : Int))), (.v (.int .u32 (0 : Int))), (.v (.int .i64 (0 : Int))), (.v (.int .i64 (0 : Int))), (.v (.int .i64 (0 : Int))), (.v (.int .i64 (0 : Int))), (.v (.slice none 0 0))])) fun S13 => (loadE (kt.at 59) 90 (.ptr b0 16) S13).bind fun r14 => (run kt (.func 125 [] []) [r14, (.v (.int .i64 a2)), (.v (.int .i64 (IntKind.wrap .i64 (a2 + (1 : Int)))))] S13).bind fun p15 => storeK (kt.at 59) 90 (.ptr b0 16) p15.1 p15.2 fun S16 => (loadE (kt.at 59) 37 (.ptr (St.next p1.2) 0) S16).bind fun r17 => openAgg cd37 r17 fun t18 => storeK (kt.at 59) 37 (.ptr (St.next S) 0) (.agg t18.enc) S16 fun S19 => (loadE (kt.at 59) 37 (.ptr (St.next S) 0) S19).bind fun r20 => (some (r20, S19)))) := by kernel_rfl
theorem fn59 : fnsK 59 = some (compF Tryz.f59) := by kernel_rfl
def h67 : H := { hh with live := fun b => match b with  | _ => [], keep := fun b => match b with  | _ => none }
theorem tell67 (N : Nat) (u0 : T28) : cBody (kt.at 67) h67 (run kt) N (compF Tryz.f67) [.agg u0.enc] St0 = (some ((.agg [(.v (.int .i64 u0.tmp)), (.v (.int .i64 u0.ty)), (.v (.int .u32 u0.c0)), (.v (.int .u32 u0.c1)), (.v (.int .u32 u0.c2)), (.v (.int .u32 u0.c3)), (.v (.int .i64 (0 : Int))), (.v (.int .i64 (0 : Int))), (.v (.int .i64 (0 : Int))), (.v (.int .i64 (0 : Int))), (.v (.slice none 0 0))]), (St.put (St.alloc St0 (.cells [(.v (.int .i64 (0 : Int))), (.v (.int .i64 (0 : Int))), (.v (.int .u32 (0 : Int))), (.v (.int .u32 (0 : Int))), (.v (.int .u32 (0 : Int))), (.v (.int .u32 (0 : Int))), (.v (.int .i64 (0 : Int))), (.v (.int .i64 (0 : Int))), (.v (.int .i64 (0 : Int))), (.v (.int .i64 (0 : Int))), (.v (.slice none 0 0))])) 0 (.cells [(.v (.int .i64 u0.tmp)), (.v (.int .i64 u0.ty)), (.v (.int .u32 u0.c0)), (.v (.int .u32 u0.c1)), (.v (.int .u32 u0.c2)), (.v (.int .u32 u0.c3)), (.v (.int .i64 (0 : Int))), (.v (.int .i64 (0 : Int))), (.v (.int .i64 (0 : Int))), (.v (.int .i64 (0 : Int))), (.v (.slice none 0 0))])))) := by kernel_rfl
theorem fn67 : fnsK 67 = some (compF Tryz.f67) := by kernel_rfl
def h122 : H := { hh with live := fun b => match b with | 0 => [(5, 0), (10, 1)] | _ => [], keep := fun b => match b with  | _ => none }
theorem tell122 (N : Nat) (n0 : Nat) (k0 : List SV) (g1 : Nat) (f1 x1 : List SV) (S : St) : cBody (kt.at 122) h122 (run kt) N (compF Tryz.f122) [.sl none n0 k0, .func g1 f1 x1] S = (iter (fun vs0 S1 => openHd vs0 fun y2 r3 => openHd r3 fun y4 r5 => openInt y4 fun a6 => (splitB (.v (.bool (decide (a6 < ((n0 : Nat) : Int)))))
 ((indexAddrE (kt.at 122) 53 (.sl none n0 k0) (.v (.int .i64 a6))).bind fun r7 => openCp cd28 r7 fun t8 => storeK (kt.at 122) 28 (.ptr (St.next S1) 0) (.agg t8.enc) (St.alloc S1 (.cells [(.v (.int .i64 (0 : Int))), (.v (.int .i64 (0 : Int))), (.v (.int .u32 (0 : Int))), (.v (.int .u32 (0 : Int))), (.v (.int .u32 (0 : Int))), (.v (.int .u32 (0 : Int)))])) fun S9 => (loadE (kt.at 122) 28 (.ptr (St.next S1) 0) S9).bind fun r10 => openAgg cd28 r10 fun t11 => (run kt (.func g1 f1 x1) [(.agg t11.enc)] S9).bind fun p12 => openAgg cd37 p12.1 fun t13 => (appendE (kt.at 122) 35 y2 (.sl (some (St.next p12.2)) 1 t13.enc) (St.alloc p12.2 (.own 11 11))).bind fun p14 => (some (.normal, ([p14.1, (.v (.int .i64 (IntKind.wrap .i64 (a6 + (1 : Int)))))], p14.2))))
 ((some ((.exit 0), ([y2, (.v (.int .i64 a6))], S1)))))) N [(.v (.slice none 0 0)), (.v (.int .i64 (0 : Int)))] S).bind fun q15 => openHd q15.2.1 fun y16 r17 => openHd r17 fun y18 r19 => openInt y18 fun a20 => (exits q15.1 (fun i21 => (if i21 = 0 then (some (y16, q15.2.2)) else none)) ((some ((.v (.slice none 0 0)), q15.2.2)))) := by kernel_rfl
theorem fn122 : fnsK 122 = some (compF Tryz.f122) := by kernel_rfl
def h120 : H := { hh with live := fun b => match b with  | _ => [], keep := fun b => match b with  | _ => none }
theorem tell120 (N : Nat) (u0 : T57) : cBody (kt.at 120) h120 (run kt) N (compF Tryz.f120) [.agg u0.enc] St0 = (some ((.agg [(.v (.int .i64 u0.kind)), (.v (.int .i64 u0.tmp)), (.v (.int .i64 u0.off)), (.v (.int .i64 u0.n)), (.v (.int .i64 u0.jump)), (.v (.int .u32 u0.addr)), (.v (.int .u32 u0.to_)), (.v (.int .i64 (0 : Int))), (.v (.int .i64 (0 : Int))), (.v (.int .u32 (0 : Int))), (.v (.int .u32 (0 : Int))), (.v (.int .u32 (0 : Int))), (.v (.int .u32 (0 : Int))), (.v (.int .i64 (0 : Int))), (.v (.int .i64 (0 : Int))), (.v (.int .i64 (0 : Int))), (.v (.int .i64 (0 : Int))), (.v (.slice none 0 0)), (.v (.slice none 0 0))]), (St.put (St.alloc St0 (.cells [(.v (.int .i64 (0 : Int))), (.v (.int .i64 (0 : Int))), (.v (.int .i64 (0 : Int))), (.v (.int .i64 (0 : Int))), (.v (.int .i64 (0 : Int))), (.v (.int .u32 (0 : Int))), (.v (.int .u32 (0 : Int))), (.v (.int .i64 (0 : Int))), (.v (.int .i64 (0 : Int))), (.v (.int .u32 (0 : Int))), (.v (.int .u32 (0 : Int))), (.v (.int .u32 (0 : Int))), (.v (.int .u32 (0 : Int))), (.v (.int .i64 (0 : Int))), (.v (.int .i64 (0 : Int))), (.v (.int .i64 (0 : Int))), (.v (.int .i64 (0 : Int))), (.v (.slice none 0 0)), (.v (.slice none 0 0))])) 0 (.cells [(.v (.int .i64 u0.kind)), (.v (.int .i64 u0.tmp)), (.v (.int .i64 u0.off)), (.v (.int .i64 u0.n)), (.v (.int .i64 u0.jump)), (.v (.int .u32 u0.addr)), (.v (.int .u32 u0.to_)), (.v (.int .i64 (0 : Int))), (.v (.int .i64 (0 : Int))), (.v (.int .u32 (0 : Int))), (.v (.int .u32 (0 : Int))), (.v (.int .u32 (0 : Int))), (.v (.int .u32 (0 : Int))), (.v (.int .i64 (0 : Int))), (.v (.int .i64 (0 : Int))), (.v (.int .i64 (0 : Int))), (.v (.int .i64 (0 : Int))), (.v (.slice none 0 0)), (.v (.slice none 0 0))])))) := by kernel_rfl
theorem fn120 : fnsK 120 = some (compF Tryz.f120) := by kernel_rfl
def h121 : H := { hh with live := fun b => match b with  | _ => [], keep := fun b => match b with  | _ => none }
theorem tell121 (N : Nat) (u0 : T55) (n1 : Nat) (k1 : List SV) : cBody (kt.at 121) h121 (run kt) N (compF Tryz.f121) [.agg u0.enc, .sl none n1 k1] St0 = (some ((.agg [(.v (.int .i64 (0 : Int))), (.v (.int .i64 (0 : Int))), (.v (.int .u32 (0 : Int))), (.v (.int .u32 (0 : Int))), (.v (.int .u32 (0 : Int))), (.v (.int .u32 (0 : Int))), (.v (.int .i64 u0.kind)), (.v (.int .i64 u0.ty)), (.v (.int .i64 u0.op)), (.v (.int .i64 u0.off)), (.sl none n1 k1)]), (St.put (St.alloc St0 (.cells [(.v (.int .i64 (0 : Int))), (.v (.int .i64 (0 : Int))), (.v (.int .u32 (0 : Int))), (.v (.int .u32 (0 : Int))), (.v (.int .u32 (0 : Int))), (.v (.int .u32 (0 : Int))), (.v (.int .i64 (0 : Int))), (.v (.int .i64 (0 : Int))), (.v (.int .i64 (0 : Int))), (.v (.int .i64 (0 : Int))), (.v (.slice none 0 0))])) 0 (.cells [(.v (.int .i64 (0 : Int))), (.v (.int .i64 (0 : Int))), (.v (.int .u32 (0 : Int))), (.v (.int .u32 (0 : Int))), (.v (.int .u32 (0 : Int))), (.v (.int .u32 (0 : Int))), (.v (.int .i64 u0.kind)), (.v (.int .i64 u0.ty)), (.v (.int .i64 u0.op)), (.v (.int .i64 u0.off)), (.sl none n1 k1)])))) := by kernel_rfl
theorem fn121 : fnsK 121 = some (compF Tryz.f121) := by kernel_rfl
def h58 : H := { hh with live := fun b => match b with  | _ => [], keep := fun b => match b with  | _ => none }
theorem tell58 (N : Nat) (u0 : T57) (g1 : Nat) (f1 x1 : List SV) (S : St) : cBody (kt.at 58) h58 (run kt) N (compF Tryz.f58) [.agg u0.enc, .func g1 f1 x1] S = (run kt (.func 120 [] []) [(.agg u0.enc)] (St.alloc S (.cells [(.v (.int .i64 (0 : Int))), (.v (.int .i64 (0 : Int))), (.v (.int .i64 (0 : Int))), (.v (.int .i64 (0 : Int))), (.v (.int .i64 (0 : Int))), (.v (.int .u32 (0 : Int))), (.v (.int .u32 (0 : Int))), (.v (.int .i64 (0 : Int))), (.v (.int .i64 (0 : Int))), (.v (.int .u32 (0 : Int))), (.v (.int .u32 (0 : Int))), (.v (.int .u32 (0 : Int))), (.v (.int .u32 (0 : Int))), (.v (.int .i64 (0 : Int))), (.v (.int .i64 (0 : Int))), (.v (.int .i64 (0 : Int))), (.v (.int .i64 (0 : Int))), (.v (.slice none 0 0)), (.v (.slice none 0 0))]))).bind fun p0 => openAgg cd59 p0.1 fun t1 => storeK (kt.at 58) 59 (.ptr (St.next p0.2) 0) (.agg t1.enc) (St.alloc p0.2 (.cells [(.v (.int .i64 (0 : Int))), (.v (.int .i64 (0 : Int))), (.v (.int .i64 (0 : Int))), (.v (.int .i64 (0 : Int))), (.v (.int .i64 (0 : Int))), (.v (.int .u32 (0 : Int))), (.v (.int .u32 (0 : Int))), (.v (.int .i64 (0 : Int))), (.v (.int .i64 (0 : Int))), (.v (.int .u32 (0 : Int))), (.v (.int .u32 (0 : Int))), (.v (.int .u32 (0 : Int))), (.v (.int .u32 (0 : Int))), (.v (.int .i64 (0 : Int))), (.v (.int .i64 (0 : Int))), (.v (.int .i64 (0 : Int))), (.v (.int .i64 (0 : Int))), (.v (.slice none 0 0)), (.v (.slice none 0 0))])) fun S2 => (splitB (.v (.bool (u0.kind == (2 : Int))))
 ((run kt (.func 122 [] []) [u0.e_L, (.func g1 f1 x1)] S2).bind fun p3 => (if (St.next S2) ≤ (St.next p3.2) then (run kt (.func 121 [] []) [(.agg [(.v (.int .i64 u0.e_Kind)), (.v (.int .i64 u0.e_Ty)), (.v (.int .i64 u0.e_Op)), (.v (.int .i64 u0.e_Off)), u0.e_L]), p3.1] p3.2).bind fun p4 => openAgg cd37 p4.1 fun t5 => storeK (kt.at 58) 37 (.ptr (St.next p0.2) 7) (.agg t5.enc) p4.2 fun S6 => (if (St.next S2) ≤ (St.next S6) then (run kt (.func 122 [] []) [u0.l, (.func g1 f1 x1)] S6).bind fun p7 => storeK (kt.at 58) 35 (.ptr (St.next p0.2) 18) p7.1 p7.2 fun S8 => (loadE (kt.at 58) 59 (.ptr (St.next p0.2) 0) S8).bind fun r9 => openAgg cd59 r9 fun t10 => storeK (kt.at 58) 59 (.ptr (St.next S) 0) (.agg t10.enc) S8 fun S11 => (loadE (kt.at 58) 59 (.ptr (St.next S) 0) S11).bind fun r12 => (some (r12, S11)) else none) else none))
 ((run kt (.func 122 [] []) [u0.l, (.func g1 f1 x1)] S2).bind fun p13 => storeK (kt.at 58) 35 (.ptr (St.next p0.2) 18) p13.1 p13.2 fun S14 => (loadE (kt.at 58) 59 (.ptr (St.next p0.2) 0) S14).bind fun r15 => openAgg cd59 r15 fun t16 => storeK (kt.at 58) 59 (.ptr (St.next S) 0) (.agg t16.enc) S14 fun S17 => (loadE (kt.at 58) 59 (.ptr (St.next S) 0) S17).bind fun r18 => (some (r18, S17)))) := by kernel_rfl
theorem fn58 : fnsK 58 = some (compF Tryz.f58) := by kernel_rfl
theorem tell123n (N : Nat) (g1 : Nat) (f1 x1 : List SV) (S : St) : cBody (kt.at 123) h123 (run kt) N (compF Tryz.f123) [.sl none 0 [], .func g1 f1 x1] S = (iter (fun vs0 S1 => openHd vs0 fun y2 r3 => openInt y2 fun a4 => openHd r3 fun y5 r6 => openInt y5 fun a7 => (splitB (.v (.bool (decide (a7 < ((0 : Nat) : Int)))))
 ((indexAddrE (kt.at 123) 90 (.sl none 0 []) (.v (.int .i64 a7))).bind fun r8 => openPtr r8 fun b9 o10 => (loadE (kt.at 123) 98 (.ptr b9 o10) S1).bind fun r11 => openAgg cd98 r11 fun t12 => (run kt (.func g1 f1 x1) [(.agg t12.enc)] S1).bind fun p13 => openBool p13.1 fun b14 => (splitB (.v (.bool b14))
 ((some (.ret, ([(.v (.int .i64 a7)), (.v (.int .i64 a7))], p13.2))))
 ((some (.normal, ([(.v (.int .i64 a4)), (.v (.int .i64 (IntKind.wrap .i64 (a7 + (1 : Int)))))], p13.2))))))
 ((some ((.exit 0), ([(.v (.int .i64 a4)), (.v (.int .i64 a7))], S1)))))) N [(.v (.int .i64 (0 : Int))), (.v (.int .i64 (0 : Int)))] S).bind fun q15 => openHd q15.2.1 fun y16 r17 => openInt y16 fun a18 => openHd r17 fun y19 r20 => openInt y19 fun a21 => (exits q15.1 (fun i22 => (if i22 = 0 then (some ((.v (.int .i64 (-(1 : Int)))), q15.2.2)) else none)) ((some ((.v (.int .i64 a18)), q15.2.2)))) := by kernel_rfl
end Go.Sv
end
