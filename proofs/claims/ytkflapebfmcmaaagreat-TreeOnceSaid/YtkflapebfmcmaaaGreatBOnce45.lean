/- Parts of the proofs of this seat's laws. -/
import Derived.Test.YtkflapebfmcmaaaGreatBOnce44
section
namespace Go.Sv
open Go Go.Proofs Go.Proofs.YtkflapebfmcmaaaGreat
set_option linter.all false
set_option maxRecDepth 100000

theorem atom_wsC (a : Atom) : weak (shut (.cp a.t28.enc)) = .cp a.t28.enc := rfl
theorem w98_ws (p : Int × Tree) : weak (shut (.agg (wc p))) = .agg (wc p) := by
  simp only [shut, weak, (cl_wc p).1.1, (cl_wc p).1.2]
theorem spec124 (a : Atom) (p : Int × Tree) (S : St) : run kt (.func 124 [] [.cp a.t28.enc]) [.agg (wc p)] S = some (.v (.bool (p.1 == a.tmp)), S) :=
  go_closed ks_kt (f := 124) (fst := []) (cap := [.cp a.t28.enc]) (args := [.agg (wc p)]) (S := S) h124 0 rfl (fn_kt 124 fn124) rfl (z := (.v (.bool (p.1 == a.tmp)), St0)) (by
    simp only [List.nil_append, List.cons_append, List.map_cons, List.map_nil, w98_ws, atom_wsC]
    have e := tell124 0 (w98 p) a.t28
    rw [w98_enc] at e
    exact e)

/-- Where the tree of a waits; else -1. -/
theorem spec123 (a : Atom) {lo : Nat} {w : Wt} {y : SV} {S : St} (h : ArrL lo w y S) (hl : w.length ≤ 900000) :
    (run kt (.func 123 [] []) [y, .func 124 [] [.cp a.t28.enc]] S = some (.v (.int .i64 (-1)), S) ∧ ∀ p ∈ w, p.1 ≠ a.tmp) ∨ ∃ i, ∃ hi : i < w.length, run kt (.func 123 [] []) [y, .func 124 [] [.cp a.t28.enc]] S = some (.v (.int .i64 (i : Int)), S) ∧ w[i].1 = a.tmp ∧ ∀ p ∈ w.take i, p.1 ≠ a.tmp := by
  rcases h with ⟨rfl, rfl⟩ | ⟨b, rfl, g, b1, b2, b3⟩
  · refine .inl ⟨?_, fun p hp => by simp at hp⟩
    refine go_pure ks_kt (f := 123) (fst := []) (cap := []) (args := [.v (.slice none 0 0), .func 124 [] [.cp a.t28.enc]]) (S := S) h123 1000000 rfl (fn_kt 123 fn123) rfl (z := (.v (.int .i64 (-1)), quiet S)) ?_
    refine (tell123n 1000000 124 [] [.cp a.t28.enc] (quiet S)).trans ?_
    generalize hF : (fun vs0 S1 => _ : List SV → St → Option (Ex × List SV × St)) = F
    have e : iter F 1000000 [.v (.int .i64 0), .v (.int .i64 0)] (quiet S) = some (.exit 0, [.v (.int .i64 0), .v (.int .i64 0)], quiet S) := iter_exit (by rw [← hF]; rfl)
    rw [e]
    rfl
  · have go : ∀ v S2, cBody (kt.at 123) h123 (run kt) 1000000 (compF Tryz.f123) [.arr b w.length, .func 124 [] [.cp a.t28.enc]] (quiet S) = some (.v (.int .i64 v), S2) → run kt (.func 123 [] []) [.arr b w.length, .func 124 [] [.cp a.t28.enc]] S = some (.v (.int .i64 v), S) :=
      fun v S2 h => go_pure ks_kt (f := 123) (fst := []) (cap := []) (args := [.arr b w.length, .func 124 [] [.cp a.t28.enc]]) (S := S) h123 1000000 rfl (fn_kt 123 fn123) rfl (z := (.v (.int .i64 v), S2)) h
    rw [tell123] at go
    simp only [splitB_dec] at go
    generalize hF : (fun vs0 S1 => _ : List SV → St → Option (Ex × List SV × St)) = F at go
    have g' : (quiet S).get b = .arr 12 (w.flatMap wc) := g
    have hl2 : ArrL lo w (.arr b w.length) (quiet S) → True := fun _ => trivial
    have main := iter_invR 0 (F := F) w.length
      (fun i vs S' => vs = [.v (.int .i64 0), .v (.int .i64 (i : Int))] ∧ S' = quiet S ∧ ∀ p ∈ w.take i, p.1 ≠ a.tmp)
      (fun vs S' => S' = quiet S ∧ ∃ i, ∃ hi : i < w.length, vs = [.v (.int .i64 (i : Int)), .v (.int .i64 (i : Int))] ∧ w[i].1 = a.tmp ∧ ∀ p ∈ w.take i, p.1 ≠ a.tmp)
      (fun i hi vs S' hI => by
        obtain ⟨rfl, rfl, hne⟩ := hI
        have hlt : ((i : Nat) : Int) < ((w.length : Nat) : Int) := by omega
        have ix : indexAddrE (kt.at 123) 90 (.arr b w.length) (.v (.int .i64 (i : Int))) = some (.ptr b (i * 12)) := by
          simp only [indexAddrE, P_kt 123, Tryz.underlying90, sz98 (P_kt 123), Option.bind_some]
          rw [if_pos ⟨by omega, by omega⟩]
          simp
        rw [← hF]
        simp only [openHd_v, openInt_v]
        rw [if_pos hlt, ix]
        simp only [Option.bind_some, openPtr]
        rw [arr_load (P_kt 123) g' i hi, Option.bind_some, openAgg98, w98_enc, spec124]
        simp only [Option.bind_some, openBool_v]
        by_cases hk : w[i].1 = a.tmp
        · have e : (w[i].1 == a.tmp) = true := by simpa using hk
          rw [e, splitB_t]
          exact .inr ⟨_, _, rfl, rfl, i, hi, rfl, hk, hne⟩
        · have e : (w[i].1 == a.tmp) = false := by simpa using hk
          rw [e, splitB_f, wrap_in (by omega) (by omega)]
          refine .inl ⟨_, _, rfl, rfl, rfl, fun p hp => ?_⟩
          rw [List.take_succ_eq_append_getElem hi] at hp
          rcases List.mem_append.1 hp with hp | hp
          · exact hne p hp
          · simp only [List.mem_singleton] at hp; subst hp; exact hk)
      (fun vs S' hI => by
        obtain ⟨rfl, rfl, hne⟩ := hI
        rw [← hF]
        simp only [openHd_v, openInt_v]
        rw [if_neg (by omega)])
      w.length 0 rfl [.v (.int .i64 0), .v (.int .i64 0)] (quiet S) 1000000 ⟨rfl, rfl, fun p hp => by simp at hp⟩ (by omega)
    rcases main with ⟨vs, S', h3, rfl, rfl, hne⟩ | ⟨vs, S', h3, rfl, i, hi, rfl, hk, hne⟩
    · rw [h3] at go
      rw [List.take_length] at hne
      exact .inl ⟨go (-1) (quiet S) rfl, hne⟩
    · rw [h3] at go
      exact .inr ⟨i, hi, go i (quiet S) rfl, hk, hne⟩

theorem take_at (a : Atom) : ∀ (w : Wt) (i : Nat) (hi : i < w.length), w[i].1 = a.tmp → (∀ p ∈ w.take i, p.1 ≠ a.tmp) → takeP a w = (w[i].2, w.take i ++ w.drop (i + 1))
  | p :: r, 0, _, h, _ => by
    have h : p.1 = a.tmp := h
    rw [takeP, if_pos h]; rfl
  | p :: r, i + 1, hi, h, hne => by
    have h0 : p.1 ≠ a.tmp := hne p (by simp)
    have hi' : i < r.length := by simpa using hi
    have e := take_at a r i hi' (by simpa using h) fun q hq => hne q (by simp [hq])
    rw [takeP, if_neg h0, e]
    rfl
theorem wflat_cut (w : Wt) (i : Nat) : (w.flatMap wc).take (i * 12) ++ (w.flatMap wc).drop ((i + 1) * 12) = (w.take i ++ w.drop (i + 1)).flatMap wc := by
  rw [List.flatMap_append]
  have h1 : ∀ (w : Wt) (i : Nat), (w.flatMap wc).take (i * 12) = (w.take i).flatMap wc := by
    intro w
    induction w with
    | nil => intro i; simp
    | cons p r ih =>
      intro i
      cases i with
      | zero => simp
      | succ i =>
        have e := wc_len p
        rw [List.flatMap_cons, List.take_succ_cons, List.flatMap_cons, ← ih i, List.take_append, e]
        rw [List.take_of_length_le (by omega), show (i + 1) * 12 - 12 = i * 12 by omega]
  have h2 : ∀ (w : Wt) (i : Nat), (w.flatMap wc).drop (i * 12) = (w.drop i).flatMap wc := by
    intro w
    induction w with
    | nil => intro i; simp
    | cons p r ih =>
      intro i
      cases i with
      | zero => simp
      | succ i =>
        have e := wc_len p
        rw [List.flatMap_cons, List.drop_succ_cons, ← ih i, List.drop_append, e]
        rw [List.drop_of_length_le (by omega), show (i + 1) * 12 - 12 = i * 12 by omega]; rfl
  rw [h1, h2]

theorem run125 {b n i : Nat} {w : Wt} {S : St} (g : S.get b = .arr 12 (w.flatMap wc)) (hf : S.floor ≤ b) (hn : n = w.length) (hi : i < n) (hl : n ≤ 900000) : run kt (.func 125 [] []) [.arr b n, .v (.int .i64 (i : Int)), .v (.int .i64 ((i : Int) + 1))] S = some (.arr b (n - 1), S.put b (.arr 12 ((w.take i ++ w.drop (i + 1)).flatMap wc))) := by
  subst hn
  refine run_prim (k := kt) (f := 125) (p := delete 12) rfl ?_
  simp only [List.nil_append, List.append_nil, delete, g]
  rw [if_pos ⟨trivial, hf, by omega, trivial, by omega, by omega, wflat_len w⟩, ← wflat_cut]
  rfl

theorem spec67 (a : Atom) (S : St) : run kt (.func 67 [] []) [.agg a.t28.enc] S = some (.agg (leafT a).cells, S) := by
  have := go_closed ks_kt (f := 67) (fst := []) (cap := []) (args := [.agg a.t28.enc]) (S := S) h67 0 rfl (fn_kt 67 fn67) rfl (by
    simp only [List.nil_append, List.append_nil, List.map_cons, List.map_nil]
    exact tell67 0 a.t28)
  rw [this, ← leaf_cells]
  rfl

theorem BS.frame {b0 : Nat} {tm sp : SV} {j : Int} {um : Nat} {out : List TStmt} {w : Wt} {lo : Nat} {S S' : St} (h : BS b0 tm sp j um out w lo S) (hf : S'.floor = S.floor) (hn : S.next ≤ S'.next) (hb : S'.get b0 = S.get b0) (ho : ∀ c, c < S.next → ∀ m, S.get c = .own 19 m → S'.get c = S.get c) (ha : ∀ c, c < S.next → ∀ cs, S.get c = .arr 12 cs → S'.get c = S.get c) : BS b0 tm sp j um out w lo S' := by
  obtain ⟨f, b, l, yL, raw, yw, g, r, a, ww⟩ := h
  exact ⟨by rw [hf, f], b, by omega, yL, raw, yw, by rw [hb]; exact g, r, accL_frame a hf hn fun c hc e => ho c hc _ e, arrL_frame ww hf hn fun c _ hc e => ha c hc _ e⟩

theorem frB_box (b0 : Nat) (S : St) (z o : SObj) : FrB b0 S (boxed S z o) := FrB.of b0 rfl (by rw [boxed_next]; omega) fun c hc => boxed_get S z o c hc

/-- The builder takes what waits. -/
theorem body59 (a : Atom) {b0 : Nat} {tm sp : SV} {j : Int} {um : Nat} {out : List TStmt} {w : Wt} {lo : Nat} {S : St} (h : BS b0 tm sp j um out w lo S) (hl : w.length ≤ 900000) :
    ∃ S', cBody (kt.at 59) h59 (run kt) 0 (compF Tryz.f59) [.ptr b0 0, .agg a.t28.enc] S = some (.agg (takeP a w).1.cells, S') ∧ BS b0 tm sp j um out (takeP a w).2 lo S' ∧ FrB b0 S S' := by
  rw [tell59]
  obtain ⟨f, hb0, hlo, yL, raw, yw, gb, r, ac, ar⟩ := h
  rw [show (S.alloc (.cells [(.v (.int .i64 (0 : Int))), (.v (.int .i64 (0 : Int))), (.v (.int .u32 (0 : Int))), (.v (.int .u32 (0 : Int))), (.v (.int .u32 (0 : Int))), (.v (.int .u32 (0 : Int))), (.v (.int .i64 (0 : Int))), (.v (.int .i64 (0 : Int))), (.v (.int .i64 (0 : Int))), (.v (.int .i64 (0 : Int))), (.v (.slice none 0 0))])) = S.alloc (.cells z37) from rfl]
  have gb1 : (S.alloc (.cells z37)).get b0 = .cells (o92 tm sp yL zT j um yw) := by rw [get_new _ _ _ (by omega)]; exact gb
  have ar1 : ArrL lo w yw (S.alloc (.cells z37)) := arrL_frame ar rfl (by show S.next ≤ S.next + 1; omega) fun c _ hc _ => get_new _ _ _ hc
  have l90 : loadE (kt.at 59) 90 (.ptr b0 16) (S.alloc (.cells z37)) = some yw := by rw [ld1 (ag90 (P_kt 59)) (sz90 (P_kt 59)) gb1, o92_16]
  rw [l90, Option.bind_some]
  rcases spec123 a ar1 hl with ⟨r1, hne⟩ | ⟨i, hi, r1, hk, hne⟩
  · rw [r1]
    have e : decide ((-1 : Int) < 0) = true := rfl
    simp only [Option.bind_some, openInt_v]
    rw [e, splitB_t, spec67, Option.bind_some, openAgg37']
    rw [show T37.enc (leafT a).t37 = (leafT a).cells from rfl]
    rw [store_box (sz37' (P_kt 59)) (by decide) (by omega) rfl (Tree.cells_len _), load_box (agg_st (P_kt 59) Tryz.underlying37) (sz37' (P_kt 59)) (Tree.cells_len _)]
    rw [take_none hne]
    refine ⟨_, rfl, ?_, frB_box _ _ _ _⟩
    exact BS.boxed ⟨f, hb0, hlo, yL, raw, yw, gb, r, ac, ar⟩ _ _
  · rw [r1]
    have e : decide ((i : Int) < 0) = false := by simp
    simp only [Option.bind_some, openInt_v]
    rw [e, splitB_f, l90, Option.bind_some]
    obtain ⟨bi, ix, gi, b1, b2, b3, rfl⟩ := arrL_index (P_kt 59) ar1 i hi
    rw [ix]
    simp only [Option.bind_some, openPtr]
    rw [arr_tree (P_kt 59) gi i hi, Option.bind_some, openAgg37']
    rw [take_at a w i hi hk hne]
    have hnx : (S.alloc (.cells z37)).next = S.next + 1 := rfl
    have hfx : (S.alloc (.cells z37)).floor = 0 := f
    have hbi : bi < S.next := by
      rcases ar with ⟨_, h⟩ | ⟨b', e', _, _, h, _⟩
      · cases h
      · cases e'; exact h
    have g0 : (S.alloc (.cells z37)).get S.next = .cells z37 := by simp [St.alloc]
    have k0 : ∀ c, c < S.next → (S.alloc (.cells z37)).get c = S.get c := fun c hc => get_new _ _ _ hc
    generalize w[i].2 = t
    rw [show T37.enc t.t37 = t.cells from rfl]
    generalize S.alloc (.cells z37) = S1 at gb1 ar1 gi hnx hfx g0 k0 b2
    rw [show (S1.alloc (.cells [(.v (.int .i64 (0 : Int))), (.v (.int .i64 (0 : Int))), (.v (.int .u32 (0 : Int))), (.v (.int .u32 (0 : Int))), (.v (.int .u32 (0 : Int))), (.v (.int .u32 (0 : Int))), (.v (.int .i64 (0 : Int))), (.v (.int .i64 (0 : Int))), (.v (.int .i64 (0 : Int))), (.v (.int .i64 (0 : Int))), (.v (.slice none 0 0))])) = S1.alloc (.cells z37) from rfl]
    rw [store_box (sz37' (P_kt 59)) (by decide) (by omega) rfl (Tree.cells_len _)]
    have kb := boxed_get S1 (.cells z37) (.cells t.cells)
    have gx := boxed_self S1 (.cells z37) (.cells t.cells)
    have nx : (boxed S1 (.cells z37) (.cells t.cells)).next = S1.next + 1 := rfl
    have fx : (boxed S1 (.cells z37) (.cells t.cells)).floor = 0 := hfx
    generalize boxed S1 (.cells z37) (.cells t.cells) = S2 at kb gx nx fx
    rw [ld1 (ag90 (P_kt 59)) (sz90 (P_kt 59)) (by rw [kb _ (by omega)]; exact gb1), o92_16, Option.bind_some]
    rw [wrap_in (by omega) (by omega)]
    rw [run125 (by rw [kb _ (by omega)]; exact gi) (by omega) rfl hi hl, Option.bind_some]
    rw [st1 (sz90 (P_kt 59)) (b := b0) (cs := o92 tm sp yL zT j um (.arr bi w.length)) (by rw [get_put _ _ _ _ (by omega), kb _ (by omega)]; exact gb1) (by show S2.floor ≤ b0; omega) (by rw [o92_len]; omega) rfl, o92_s16]
    rw [ldN (agg_st (P_kt 59) Tryz.underlying37) (sz37' (P_kt 59)) (b := S1.next) (cs := t.cells) (by rw [get_put _ _ _ _ (by omega), get_put _ _ _ _ (by omega)]; exact gx) (Tree.cells_len _), Option.bind_some, openAgg37']
    rw [show T37.enc t.t37 = t.cells from rfl]
    rw [stN (sz37' (P_kt 59)) (by decide) (b := S.next) (cs := z37) (by rw [get_put _ _ _ _ (by omega), get_put _ _ _ _ (by omega), kb _ (by omega)]; exact g0) (by show S2.floor ≤ S.next; omega) (Tree.cells_len _) (by simp [z37])]
    have hs : splice z37 0 t.cells = t.cells := by simp [splice, z37, Tree.cells_len]
    rw [hs, ldN (agg_st (P_kt 59) Tryz.underlying37) (sz37' (P_kt 59)) (b := S.next) (cs := t.cells) (put_get _ _ _) (Tree.cells_len _), Option.bind_some]
    have kk : ∀ c, c < S.next → c ≠ b0 → c ≠ bi → (((S2.put bi (.arr 12 ((w.take i ++ w.drop (i + 1)).flatMap wc))).put b0 (.cells (o92 tm sp yL zT j um (.arr bi (w.length - 1))))).put S.next (.cells t.cells)).get c = S.get c := by
      intro c hc h0 h1
      rw [get_put _ _ _ _ (by omega), get_put _ _ _ _ h0, get_put _ _ _ _ h1, kb _ (by omega), k0 _ hc]
    refine ⟨_, rfl, ⟨fx, hb0, by show lo ≤ S2.next; omega, yL, raw, .arr bi (w.length - 1), ?_, r, ?_, .inr ⟨bi, ?_, ?_, b1, by show bi < S2.next; omega, by show S2.floor ≤ bi; omega⟩⟩, ⟨?_, by show S.next ≤ S2.next; omega, fun c hc h0 h1 h2 => kk c hc h0 ?_⟩⟩
    · rw [get_put _ _ _ _ (by omega), put_get]
    · have gbi : S.get bi = .arr 12 (w.flatMap wc) := by rw [← k0 _ hbi]; exact gi
      refine accL_frame ac (by show S2.floor = S.floor; omega) (by show S.next ≤ S2.next; omega) fun c hc e => kk c hc ?_ ?_
      · rintro rfl; rw [gb] at e; cases e
      · rintro rfl; rw [gbi] at e; cases e
    · have : (w.take i ++ w.drop (i + 1)).length = w.length - 1 := by simp; omega
      rw [this]
    · rw [get_put _ _ _ _ (by omega), get_put _ _ _ _ (by omega), put_get]
    · show S2.floor = S.floor; omega
    · rintro rfl
      exact h2 _ (by rw [← k0 _ hbi]; exact gi)
end Go.Sv
end
section
namespace Go.Sv
open Go Go.Proofs Go.Proofs.YtkflapebfmcmaaaGreat
set_option linter.all false
set_option maxRecDepth 100000

theorem spec59 (a : Atom) {b0 : Nat} {tm sp : SV} {j : Int} {um : Nat} {out : List TStmt} {w : Wt} {lo : Nat} {S : St} (h : BS b0 tm sp j um out w lo S) (hl : w.length ≤ 900000) :
    ∃ S', run kt (.func 59 [.ptr b0 0] []) [.agg a.t28.enc] S = some (.agg (takeP a w).1.cells, S') ∧ run kt (.func 59 [] []) [.ptr b0 0, .agg a.t28.enc] S = some (.agg (takeP a w).1.cells, S') ∧ BS b0 tm sp j um out (takeP a w).2 lo S' ∧ FrB b0 S S' := by
  obtain ⟨S', e, h1, h2⟩ := body59 a h hl
  exact ⟨S', go_plain ks_kt (f := 59) (fst := [.ptr b0 0]) (cap := []) (args := [.agg a.t28.enc]) (S := S) h59 0 rfl (fn_kt 59 fn59) rfl e, go_plain ks_kt (f := 59) (fst := []) (cap := []) (args := [.ptr b0 0, .agg a.t28.enc]) (S := S) h59 0 rfl (fn_kt 59 fn59) rfl e, h1, h2⟩

theorem takesP_snoc : ∀ (l : List Atom) (a : Atom) (w : Wt), takesP (l ++ [a]) w = ((takesP l w).1 ++ [(takeP a (takesP l w).2).1], (takeP a (takesP l w).2).2)
  | [], a, w => rfl
  | x :: r, a, w => by
    simp only [List.cons_append, takesP, takesP_snoc r a (takeP x w).2]
theorem takeP_len (a : Atom) : ∀ w : Wt, (takeP a w).2.length ≤ w.length
  | [] => Nat.le_refl _
  | p :: r => by
    rw [takeP]
    split
    · simp
    · simp [takeP_len a r]
theorem takesP_len : ∀ (l : List Atom) (w : Wt), (takesP l w).1.length = l.length ∧ (takesP l w).2.length ≤ w.length
  | [], w => ⟨rfl, Nat.le_refl _⟩
  | a :: r, w => by
    have h1 := takesP_len r (takeP a w).2
    have h2 := takeP_len a w
    exact ⟨by simp [takesP, h1.1], by simp only [takesP]; omega⟩

theorem bytes122 : ∃ n, bytes? (kt.at 122) 37 = some n ∧ n ≠ 0 ∧ n ≤ 1000 := bytesU (by kernel_rfl)
theorem zero122 : ∃ z, zero? (kt.at 122) 37 = some z ∧ z.length = 11 := zlenU (by kernel_rfl)
def z28 : List SV := [(.v (.int .i64 (0 : Int))), (.v (.int .i64 (0 : Int))), (.v (.int .u32 (0 : Int))), (.v (.int .u32 (0 : Int))), (.v (.int .u32 (0 : Int))), (.v (.int .u32 (0 : Int)))]

/-- All that are taken. -/
theorem spec122 (l : List Atom) (hn : l.length ≤ 900000) {b0 : Nat} {tm sp : SV} {j : Int} {um : Nat} {out : List TStmt} {w : Wt} {lo : Nat} {S : St} (h : BS b0 tm sp j um out w lo S) (hl : w.length ≤ 900000) :
    ∃ y S', run kt (.func 122 [] []) [atoms l, .func 59 [.ptr b0 0] []] S = some (y, S') ∧ Rd' Tree.cells (takesP l w).1 y ∧ single y = true ∧ BS b0 tm sp j um out (takesP l w).2 lo S' ∧ FrB b0 S S' := by
  suffices ∃ y S', cBody (kt.at 122) h122 (run kt) 1000000 (compF Tryz.f122) [atoms l, .func 59 [.ptr b0 0] []] S = some (y, S') ∧ Rd' Tree.cells (takesP l w).1 y ∧ single y = true ∧ BS b0 tm sp j um out (takesP l w).2 lo S' ∧ FrB b0 S S' by
    obtain ⟨y, S', e, h1⟩ := this
    exact ⟨y, S', go_plain ks_kt (f := 122) (fst := []) (cap := []) (args := [atoms l, .func 59 [.ptr b0 0] []]) (S := S) h122 1000000 rfl (fn_kt 122 fn122) rfl e, h1⟩
  have e0 := tell122 1000000 l.length (l.flatMap ac) 59 [.ptr b0 0] [] S
  rw [show SV.sl none l.length (l.flatMap ac) = atoms l from rfl] at e0
  rw [e0]
  clear e0
  simp only [splitB_dec]
  obtain ⟨bt, hbt, bt0, bt1⟩ := bytes122
  obtain ⟨zt, hzt, ztl⟩ := zero122
  have hf := h.fl
  have hb0 := h.b0lo
  have hlo := h.lon
  generalize hF : (fun vs0 S1 => _ : List SV → St → Option (Ex × List SV × St)) = F
  obtain ⟨vs, S3, h3, y, rfl, hy, hbs, hfr⟩ := iter_inv 0 (F := F) l.length
    (fun i vs S' => ∃ y, vs = [y, .v (.int .i64 (i : Int))] ∧ AccL Tree.cells 11 S.next (takesP (l.take i) w).1 y S' ∧ BS b0 tm sp j um out (takesP (l.take i) w).2 lo S' ∧ FrB b0 S S')
    (fun i hi vs S' hI => by
      obtain ⟨y, rfl, hy, hbs, hfr⟩ := hI
      have hlt : ((i : Nat) : Int) < ((l.length : Nat) : Int) := by omega
      have hfl : S'.floor ≤ S'.next := by rw [hbs.fl]; omega
      rw [← hF]
      simp only [openHd_v, openInt_v]
      rw [if_pos hlt, index_atoms (P_kt 122) .i64 l i hi]
      simp only [Option.bind_some, openCp28']
      rw [store_box (size28k (P_kt 122)) (by decide) hfl rfl rfl, load_box (agg_st (P_kt 122) Tryz.underlying28) (size28k (P_kt 122)) rfl]
      simp only [Option.bind_some, openAgg28]
      rw [show (SObj.cells [(.v (.int .i64 (0 : Int))), (.v (.int .i64 (0 : Int))), (.v (.int .u32 (0 : Int))), (.v (.int .u32 (0 : Int))), (.v (.int .u32 (0 : Int))), (.v (.int .u32 (0 : Int)))]) = .cells z28 from rfl]
      have hbs1 := hbs.boxed (.cells z28) (.cells l[i].t28.enc)
      have hy1 := accL_box hy (.cells z28) (.cells l[i].t28.enc)
      have hfr1 := hfr.trans (frB_box b0 S' (.cells z28) (.cells l[i].t28.enc))
      generalize boxed S' (.cells z28) (.cells l[i].t28.enc) = T1 at hbs1 hy1 hfr1
      have hlc := takesP_len (l.take i) w
      rw [List.length_take, Nat.min_eq_left (by omega)] at hlc
      obtain ⟨T2, r1, _, r2, r3⟩ := spec59 l[i] hbs1 (by omega)
      rw [r1]
      simp only [Option.bind_some, openAgg37']
      rw [List.take_succ_eq_append_getElem hi, takesP_snoc]
      generalize takesP (l.take i) w = c at *
      have hy2 : AccL Tree.cells 11 S.next c.1 y T2 := accL_frame hy1 r3.fl r3.nx fun c' hc' e => by
        by_cases hcb : c' = b0
        · obtain ⟨_, _, _, yL, raw, yw, g, _⟩ := hbs1
          rw [hcb, g] at e; cases e
        · exact r3.kp c' hc' hcb (by intro m; rw [e]; simp) (by intro cs; rw [e]; simp)
      generalize takeP l[i] c.2 = d at *
      rw [show T37.enc d.1.t37 = d.1.cells from rfl]
      obtain ⟨y', T3, a1, a2, a3, a4, a5, a6⟩ := accL_append Tree.cells_len (elem_of (P_kt 122) Tryz.underlying35) (sz37' (P_kt 122)) hbt hzt (by decide) bt0 ztl (by decide) hy2 d.1 (room1 _ _ (by omega) bt1)
      rw [a1]
      simp only [Option.bind_some]
      rw [wrap_in (by omega) (by omega)]
      refine ⟨_, _, rfl, y', rfl, a2, r2.frame a3 (by omega) (a5 b0 (by omega)) (fun c hc m e => a6 c hc (by intro m'; rw [e]; simp)) (fun c hc cs e => a6 c hc (by intro m'; rw [e]; simp)), ?_⟩
      have hfr2 := hfr1.trans r3
      exact ⟨by rw [a3, hfr2.fl], by have := hfr2.nx; omega, fun c hc h0 h1 h2 => by rw [a5 c hc, hfr2.kp c hc h0 h1 h2]⟩)
    (fun vs S' hI => by
      obtain ⟨y, rfl, _⟩ := hI
      rw [← hF]
      simp only [openHd_v, openInt_v]
      rw [if_neg (by omega)])
    l.length 0 rfl [.v (.slice none 0 0), .v (.int .i64 0)] S 1000000 ⟨_, rfl, by rw [List.take_zero]; exact accL0 _ _ _ (by omega) (Nat.le_refl _), by rw [List.take_zero]; exact h, FrB.refl _ _⟩ (by omega)
  rw [h3]
  rw [List.take_length] at hy hbs
  simp only [Option.bind_some, openHd_v, openInt_v, exits_exit, if_true]
  exact ⟨y, S3, rfl, accL_rd hy, accL_single hy, hbs, hfr⟩

theorem spec120 (s : Stmt) (S : St) : run kt (.func 120 [] []) [.agg s.t57.enc] S = some (.agg (tsc (bareT s)), S) := by
  have := go_closed ks_kt (f := 120) (fst := []) (cap := []) (args := [.agg s.t57.enc]) (S := S) h120 0 rfl (fn_kt 120 fn120) rfl (by
    simp only [List.nil_append, List.append_nil, List.map_cons, List.map_nil, stmt_ws]
    exact tell120 0 s.t57)
  rw [this]
  rfl
theorem spec121 (e : Expr) (l : List Tree) {y : SV} (hy : weak (shut y) = sl Tree.cells l) (S : St) : run kt (.func 121 [] []) [.agg e.t55.enc, y] S = some (.agg (nodeT e l).cells, S) := by
  have := go_closed ks_kt (f := 121) (fst := []) (cap := []) (args := [.agg e.t55.enc, y]) (S := S) h121 0 rfl (fn_kt 121 fn121) rfl (by
    simp only [List.nil_append, List.append_nil, List.map_cons, List.map_nil, expr_ws, hy]
    exact tell121 0 e.t55 l.length (l.flatMap Tree.cells))
  rw [this, cells_eq]
  have h := sl_erase cl_tree l
  simp only [erase, eraseL, weakV]
  rw [show SV.sl none l.length (l.flatMap Tree.cells) = sl Tree.cells l from rfl]
  simp only [sl, erase, cl_flat cl_tree]
  rfl
end Go.Sv
end
section
namespace Go.Sv
open Go Go.Proofs Go.Proofs.YtkflapebfmcmaaaGreat
set_option linter.all false
set_option maxRecDepth 100000

theorem BS.put {b0 : Nat} {tm sp : SV} {j : Int} {um : Nat} {out : List TStmt} {w : Wt} {lo : Nat} {S : St} (h : BS b0 tm sp j um out w lo S) {b : Nat} {cs : List SV} (hb : b ≠ b0) (hg : S.get b = .cells cs) (o : SObj) : BS b0 tm sp j um out w lo (S.put b o) :=
  h.frame rfl (Nat.le_refl _) (get_put _ _ _ _ (Ne.symm hb)) (fun c _ m e => get_put _ _ _ _ (by rintro rfl; rw [hg] at e; cases e)) (fun c _ m e => get_put _ _ _ _ (by rintro rfl; rw [hg] at e; cases e))
theorem openAggY {Z : Type} (q : TStmt × SV) (K : cd59.α → Option Z) : openAgg cd59 (.agg (tscY q)) K = K (rawT q.1 q.2) := rfl
theorem tscY_s18 (x : TStmt) (l : List Tree) (y : SV) : splice (tsc x) 18 [y] = tscY ({ x with l := l }, y) := rfl
theorem tsc_s7 (x : TStmt) (t : Tree) : splice (tsc x) 7 t.cells = tsc { x with e := t } := by rw [cells_eq]; rfl
theorem splice59 (q : TStmt × SV) : splice z59 0 (tscY q) = tscY q := rfl
theorem FrB.put_new {b0 b : Nat} {S S' : St} (h : FrB b0 S S') (hb : S.next ≤ b) (o : SObj) : FrB b0 S (S'.put b o) :=
  ⟨h.fl, h.nx, fun c hc h0 h1 h2 => by rw [get_put _ _ _ _ (by omega)]; exact h.kp c hc h0 h1 h2⟩
theorem FrB.cells {b0 b : Nat} {S S' : St} (h : FrB b0 S S') {cs : List SV} (hb : b < S.next) (h0 : b ≠ b0) (hg : S.get b = .cells cs) : S'.get b = .cells cs := by
  rw [h.kp b hb h0 (by intro m; rw [hg]; simp) (by intro m; rw [hg]; simp)]; exact hg

/-- A statement is made of trees. -/
theorem spec58 (s : Stmt) (h1 : s.l.length ≤ 900000) (h2 : s.e.l.length ≤ 900000) {b0 : Nat} {tm sp : SV} {j : Int} {um : Nat} {out : List TStmt} {w : Wt} {lo : Nat} {S : St} (h : BS b0 tm sp j um out w lo S) (hl : w.length ≤ 900000) :
    ∃ yl S', run kt (.func 58 [] []) [.agg s.t57.enc, .func 59 [.ptr b0 0] []] S = some (.agg (tscY ((madeP s w).1, yl)), S') ∧ Rd' Tree.cells (madeP s w).1.l yl ∧ BS b0 tm sp j um out (madeP s w).2 lo S' ∧ FrB b0 S S' := by
  suffices ∃ yl S', cBody (kt.at 58) h58 (run kt) 0 (compF Tryz.f58) [.agg s.t57.enc, .func 59 [.ptr b0 0] []] S = some (.agg (tscY ((madeP s w).1, yl)), S') ∧ Rd' Tree.cells (madeP s w).1.l yl ∧ BS b0 tm sp j um out (madeP s w).2 lo S' ∧ FrB b0 S S' by
    obtain ⟨yl, S', e, h1⟩ := this
    exact ⟨yl, S', go_plain ks_kt (f := 58) (fst := []) (cap := []) (args := [.agg s.t57.enc, .func 59 [.ptr b0 0] []]) (S := S) h58 0 rfl (fn_kt 58 fn58) rfl e, h1⟩
  rw [tell58]
  have hb0 := h.b0lo
  have hlo := h.lon
  have hf := h.fl
  rw [show (S.alloc (.cells [(.v (.int .i64 (0 : Int))), (.v (.int .i64 (0 : Int))), (.v (.int .i64 (0 : Int))), (.v (.int .i64 (0 : Int))), (.v (.int .i64 (0 : Int))), (.v (.int .u32 (0 : Int))), (.v (.int .u32 (0 : Int))), (.v (.int .i64 (0 : Int))), (.v (.int .i64 (0 : Int))), (.v (.int .u32 (0 : Int))), (.v (.int .u32 (0 : Int))), (.v (.int .u32 (0 : Int))), (.v (.int .u32 (0 : Int))), (.v (.int .i64 (0 : Int))), (.v (.int .i64 (0 : Int))), (.v (.int .i64 (0 : Int))), (.v (.int .i64 (0 : Int))), (.v (.slice none 0 0)), (.v (.slice none 0 0))])) = S.alloc (.cells z59) from rfl]
  rw [spec120, Option.bind_some, openAgg59']
  rw [show T59.enc (bareT s).t59 = tsc (bareT s) from rfl]
  have hA : BS b0 tm sp j um out w lo (S.alloc (.cells z59)) := h.keep rfl (by show S.next ≤ S.next + 1; omega) fun c hc => get_new _ _ _ hc
  have fA : FrB b0 S (S.alloc (.cells z59)) := FrB.of b0 rfl (by show S.next ≤ S.next + 1; omega) fun c hc => get_new _ _ _ hc
  have gA : (S.alloc (.cells z59)).get S.next = .cells z59 := by simp [St.alloc]
  have nA : (S.alloc (.cells z59)).next = S.next + 1 := rfl
  simp only []
  generalize S.alloc (.cells z59) = SA at hA fA gA nA
  rw [show (SA.alloc (.cells [(.v (.int .i64 (0 : Int))), (.v (.int .i64 (0 : Int))), (.v (.int .i64 (0 : Int))), (.v (.int .i64 (0 : Int))), (.v (.int .i64 (0 : Int))), (.v (.int .u32 (0 : Int))), (.v (.int .u32 (0 : Int))), (.v (.int .i64 (0 : Int))), (.v (.int .i64 (0 : Int))), (.v (.int .u32 (0 : Int))), (.v (.int .u32 (0 : Int))), (.v (.int .u32 (0 : Int))), (.v (.int .u32 (0 : Int))), (.v (.int .i64 (0 : Int))), (.v (.int .i64 (0 : Int))), (.v (.int .i64 (0 : Int))), (.v (.int .i64 (0 : Int))), (.v (.slice none 0 0)), (.v (.slice none 0 0))])) = SA.alloc (.cells z59) from rfl]
  rw [store_box (sz59 (P_kt 58)) (by decide) (by rw [hA.fl]; omega) rfl (tsc_len _)]
  have hB := hA.boxed (.cells z59) (.cells (tsc (bareT s)))
  have fB := fA.trans (frB_box b0 SA (.cells z59) (.cells (tsc (bareT s))))
  have gB : (boxed SA (.cells z59) (.cells (tsc (bareT s)))).get S.next = .cells z59 := by rw [boxed_get _ _ _ _ (by omega)]; exact gA
  have gX := boxed_self SA (.cells z59) (.cells (tsc (bareT s)))
  have nB : (boxed SA (.cells z59) (.cells (tsc (bareT s)))).next = S.next + 2 := by rw [boxed_next]; omega
  generalize boxed SA (.cells z59) (.cells (tsc (bareT s))) = S2 at hB fB gB gX nB
  rw [nA] at gX ⊢
  clear hA fA gA nA SA
  have fin : ∀ (x : TStmt) (l : List Atom) (w' : Wt) (T : St), l.length ≤ 900000 → w'.length ≤ 900000 → BS b0 tm sp j um out w' lo T → FrB b0 S T → T.get S.next = .cells z59 → T.get (S.next + 1) = .cells (tsc x) → S.next + 2 ≤ T.next →
      ∃ yl S', ((run kt (.func 122 [] []) [atoms l, .func 59 [.ptr b0 0] []] T).bind fun p13 => storeK (kt.at 58) 35 (.ptr (S.next + 1) 18) p13.1 p13.2 fun S14 => (loadE (kt.at 58) 59 (.ptr (S.next + 1) 0) S14).bind fun r15 => openAgg cd59 r15 fun t16 => storeK (kt.at 58) 59 (.ptr (St.next S) 0) (.agg t16.enc) S14 fun S17 => (loadE (kt.at 58) 59 (.ptr (St.next S) 0) S17).bind fun r18 => (some (r18, S17))) = some (.agg (tscY ({ x with l := (takesP l w').1 }, yl)), S') ∧ Rd' Tree.cells (takesP l w').1 yl ∧ BS b0 tm sp j um out (takesP l w').2 lo S' ∧ FrB b0 S S' := by
    intro x l w' T hl1 hw' hT fT g0 g1 hn
    obtain ⟨y, T2, r1, r2, r3, r4, r5⟩ := spec122 l hl1 hT hw'
    have e0 := r5.cells (by omega) (by omega) g0
    have e1 := r5.cells (by omega) (by omega) g1
    have f2 := fT.trans r5
    have hn2 := r5.nx
    have h5 := r4.fl
    rw [r1, Option.bind_some]
    rw [st1 (sz35' (P_kt 58)) e1 (by omega) (by rw [tsc_len]; omega) r3, tscY_s18 x (takesP l w').1]
    rw [ldN (agg_st (P_kt 58) Tryz.underlying59) (sz59 (P_kt 58)) (put_get _ _ _) (tscY_len _), Option.bind_some, openAggY]
    rw [show T59.enc (rawT { x with l := (takesP l w').1 } y) = tscY ({ x with l := (takesP l w').1 }, y) from rfl]
    rw [stN (sz59 (P_kt 58)) (by decide) (b := S.next) (cs := z59) (by rw [get_put _ _ _ _ (by omega)]; exact e0) (by show T2.floor ≤ S.next; omega) (tscY_len _) (by decide), splice59]
    rw [ldN (agg_st (P_kt 58) Tryz.underlying59) (sz59 (P_kt 58)) (put_get _ _ _) (tscY_len _), Option.bind_some]
    refine ⟨y, _, rfl, r2, ?_, ?_⟩
    · exact (r4.put (by omega) e1 _).put (cs := z59) (by omega) (by rw [get_put _ _ _ _ (by omega)]; exact e0) _
    · exact (f2.put_new (by omega) _).put_new (Nat.le_refl _) _
  rw [show s.t57.kind = s.kind from rfl, show s.t57.e_L = atoms s.e.l from rfl, show s.t57.l = atoms s.l from rfl]
  unfold madeP
  by_cases hk : s.kind = 2
  · have e : (s.kind == 2) = true := by simpa using hk
    rw [e, splitB_t, if_pos hk]
    obtain ⟨y, T, r1, r2, r3, r4, r5⟩ := spec122 s.e.l h2 hB hl
    have hlc := takesP_len s.e.l w
    have e0 := r5.cells (by omega) (by omega) gB
    have e1 := r5.cells (by omega) (by omega) gX
    have f2 := fB.trans r5
    have hn2 := r5.nx
    have h5 := r4.fl
    rw [r1, Option.bind_some, if_pos hn2]
    have e121 := spec121 s.e (takesP s.e.l w).1 (rd_ws cl_tree r2) T
    rw [show SV.agg [(.v (.int .i64 s.t57.e_Kind)), (.v (.int .i64 s.t57.e_Ty)), (.v (.int .i64 s.t57.e_Op)), (.v (.int .i64 s.t57.e_Off)), atoms s.e.l] = .agg s.e.t55.enc from rfl, e121]
    simp only [Option.bind_some, openAgg37']
    generalize nodeT s.e (takesP s.e.l w).1 = t
    rw [show T37.enc t.t37 = t.cells from rfl]
    rw [stN (sz37' (P_kt 58)) (by decide) e1 (by omega) (Tree.cells_len _) (by rw [tsc_len]; decide), tsc_s7]
    rw [if_pos (by show S2.next ≤ T.next; omega)]
    exact fin { bareT s with e := t } s.l (takesP s.e.l w).2 _ h1 (by omega) (r4.put (by omega) e1 _) (f2.put_new (by omega) _) (by rw [get_put _ _ _ _ (by omega)]; exact e0) (put_get _ _ _) (by show S.next + 2 ≤ T.next; omega)
  · have e : (s.kind == 2) = false := by simpa using hk
    rw [e, splitB_f, if_neg hk]
    exact fin (bareT s) s.l w S2 h1 hl hB fB gB gX (by omega)
end Go.Sv
end
