/- Parts of the proofs of this seat's laws. -/
import Derived.Test.YtkflapebfmcmaaaGreatBOnce29
section
namespace Go.Sv
open Go Go.Proofs Go.Proofs.YtkflapebfmcmaaaGreat
set_option linter.all false
set_option maxRecDepth 100000

/-- A temporary has this type. -/
def hasTy (tmps : List Int) (t ty : Int) : Bool := decide (t ≥ 0) && (decide (t < tmps.length) && (tmps.getD t.toNat 0 == ty))
/-- A statement is valid, its elements' types being these, its expression's this. -/
def validK (tmps : List Int) (s : Stmt) (l : List Int) (et : Int) : Bool :=
  if s.kind == 1 then decide (l.length = 0) && ((s.n == 4 || s.n == 8) && (s.tmp == 0 && s.off == 0))
  else if s.kind == 2 then decide (l.length = 0) && (s.n == 0 && (s.off == 0 && (et != 0 && hasTy tmps s.tmp et)))
  else if s.kind == 3 then decide (l.length = 1) && (s.tmp == 0 && (s.n == 0 && placesM (l.headD 0) s.off))
  else if s.kind == 4 || s.kind == 6 then decide (l.length = 2) && (l.headD 0 == 32 && (storM (l.tail.headD 0) && zerosM [s.tmp, s.off, s.n]))
  else if s.kind == 5 then sameM l (if s.off == 0 then 3 else 2) && (l.headD 0 == 32 && (decide (s.off ≥ 0) && (decide (s.off ≤ 2) && (s.n == 0 && hasTy tmps s.tmp 32))))
  else if s.kind == 7 then areM l [32, 32] && (decide (s.n ≥ 1) && (decide (s.n ≤ 16) && (s.tmp == 0 && s.off == 0)))
  else if s.kind == 8 then decide (1 ≤ l.length) && (decide (l.length ≤ 9) && (l.headD 0 == 1 && (decide (0 ≤ s.n) && (decide (s.n ≤ 1000000) && (s.tmp == 0 && (s.off == 0 && (decide (l.length = 1) || (sameM l.tail ((l.length : Int) - 1) && l.tail.headD 0 == 32))))))))
  else if s.kind == 9 then areM l [1] && (decide (s.jump ≥ 1) && (decide (s.jump ≤ 9) && zerosM [s.tmp, s.off, s.n]))
  else false
def validM (tmps : List Int) (s : Stmt) : Bool :=
  if (s.kind != 9 && (s.jump != 0 || s.to_ != 0)) || ((s.kind != 1 && s.addr != 0) || (s.kind != 2 && !noneM s.e)) then false
  else validK tmps s (typesM tmps s.l) (exprTyM tmps s.e)

theorem exB_split {c : Bool} {A B : Option (SV × St)} {v : Bool} (h1 : c = true → ExB A v) (h2 : c = false → ExB B v) : ExB (splitB (.v (.bool c)) A B) v := by
  cases c
  · exact h2 rfl
  · exact h1 rfl
theorem exB_bind {g : Option (List SV)} {c : Bool} {K : List SV → Option (SV × St)} {v : Bool} (h1 : g = some [.v (.bool c)]) (h2 : ExB (K [.v (.bool c)]) v) : ExB (g.bind K) v := by
  rw [h1]; exact h2
set_option maxHeartbeats 4000000 in
theorem spec78 (l : List Int) (s : Stmt) (h1 : s.l.length ≤ 1000000) (h2 : s.e.l.length ≤ 1000000) (S : St) : run kt (.func 78 [] []) [nums l, .agg s.t57.enc] S = some (.v (.bool (validM l s)), S) := by
  refine closed_bool h78 0 rfl (fn_kt 78 fn78) rfl ?_
  simp only [List.map_cons, List.map_nil, nums_ws, stmt_ws]
  have e0 := tell78 0 l.length (l.flatMap (ic .i64)) s.t57
  rw [show SV.sl none l.length (l.flatMap (ic .i64)) = nums l from rfl] at e0
  rw [e0]
  clear e0
  obtain ⟨k, t, off, n, j, ad, to, e, xs⟩ := s
  have hr := spec133 l xs h1 St0
  have hn : ∀ S, run kt (.func 134 [] []) [.agg [(.v (.int .i64 e.kind)), (.v (.int .i64 e.ty)), (.v (.int .i64 e.op)), (.v (.int .i64 e.off)), atoms e.l]] S = some (.v (.bool (noneM e)), S) := fun S => spec134 e S
  have he : ∀ S, run kt (.func 135 [] []) [nums l, .agg [(.v (.int .i64 e.kind)), (.v (.int .i64 e.ty)), (.v (.int .i64 e.op)), (.v (.int .i64 e.off)), atoms e.l]] S = some (.v (.int .i64 (exprTyM l e)), S) := fun S => spec135 l e h2 S
  simp only [Stmt.t57, hr, Option.bind_some]
  refine exB_bind (c := (k != 9 && (j != 0 || to != 0)) || ((k != 1 && ad != 0) || (k != 2 && !noneM e))) ?_ ?_
  · simp only [hn, Option.bind_some, openBool_v, splitB_if, mlb]
    cases (k != 9) <;> cases (j != 0) <;> cases (to != 0) <;> cases (k != 1) <;> cases (ad != 0) <;> cases (k != 2) <;> rfl
  simp only [openHd_v, openBool_v]
  unfold validM
  simp only []
  have hL : (typesM l xs).length ≤ 1000000 := by rw [typesM_len]; exact h1
  generalize typesM l xs = L at hL
  have hE := exprTyM l e
  generalize hx : exprTyM l e = et at he
  generalize ((k != 9 && (j != 0 || to != 0)) || ((k != 1 && ad != 0) || (k != 2 && !noneM e))) = gd
  cases gd with
  | true => exact exB _ _
  | false =>
    simp only [Bool.false_eq_true, if_false]
    rw [splitB_f]
    refine exB_split (fun h => ?_) fun k1 => ?_
    · obtain rfl : k = 1 := by simpa using h
      show ExB _ (decide (L.length = 0) && ((n == 4 || n == 8) && (t == 0 && off == 0)))
      match L, hL with
      | [], _ =>
        simp only [len_nums (P_kt 78), Option.bind_some, openInt_v, splitB_if, List.length_nil]
        cases (n == 4) <;> cases (n == 8) <;> cases (t == 0) <;> cases (off == 0) <;> exact exB _ _
      | x :: r, hL =>
        have e1 : (((x :: r).length : Int) == 0) = false := by simp; omega
        simp only [len_nums (P_kt 78), Option.bind_some, openInt_v, splitB_if, e1]
        exact exB _ _
    refine exB_split (fun h => ?_) fun k2 => ?_
    · obtain rfl : k = 2 := by simpa using h
      show ExB _ (decide (L.length = 0) && (n == 0 && (off == 0 && (et != 0 && hasTy l t et))))
      have e1 : ((L.length : Int) == 0) = decide (L.length = 0) := by
        by_cases h : L.length = 0
        · simp [h]
        · have : ¬ (L.length : Int) = 0 := by omega
          simp [h, this]
      simp only [he, Option.bind_some, openInt_v, len_nums (P_kt 78), e1]
      simp only [splitB_dec]
      simp only [splitB_if]
      unfold hasTy
      by_cases ht : t ≥ 0
      · by_cases ht2 : t < l.length
        · have ix := index_nums (P_kt 78) .i64 l t.toNat (by omega)
          rw [Int.toNat_of_nonneg ht] at ix
          have e2 : l.getD t.toNat 0 = l[t.toNat]'(by omega) := by simp [List.getD, show t.toNat < l.length by omega]
          simp only [ht, ht2, if_true, decide_true, Bool.true_and, ix, Option.bind_some, load_cp (P_kt 78), openInt_v, e2]
          by_cases h0 : L.length = 0 <;> simp only [h0, if_true, if_false, decide_true, decide_false] <;> cases (n == 0) <;> cases (off == 0) <;> cases (et != 0) <;> exact exB _ _
        · simp only [ht, ht2, if_true, if_false, decide_true, decide_false, Bool.true_and, Bool.false_and, Bool.and_false]
          by_cases h0 : L.length = 0 <;> simp only [h0, if_true, if_false, decide_true, decide_false] <;> cases (n == 0) <;> cases (off == 0) <;> exact exB _ _
      · simp only [ht, if_false, decide_false, Bool.false_and, Bool.and_false]
        by_cases h0 : L.length = 0 <;> simp only [h0, if_true, if_false, decide_true, decide_false] <;> cases (n == 0) <;> cases (off == 0) <;> exact exB _ _
    refine exB_split (fun h => ?_) fun k3 => ?_
    · obtain rfl : k = 3 := by simpa using h
      show ExB _ (decide (L.length = 1) && (t == 0 && (n == 0 && placesM (L.headD 0) off)))
      match L, hL with
      | [], _ => exact exB _ _
      | [x], _ =>
        show ExB _ (true && (t == 0 && (n == 0 && placesM x off)))
        simp only [len_nums (P_kt 78), idx0 (P_kt 78), Option.bind_some, openInt_v, loadK_cp (P_kt 78), spec136, openBool_v, splitB_if, List.length_singleton]
        cases (t == 0) <;> cases (n == 0) <;> exact exB _ _
      | x :: y :: r, hL =>
        have e1 : (((x :: y :: r).length : Int) == 1) = false := by simp; omega
        have e2 : (decide ((x :: y :: r).length = 1)) = false := by simp
        simp only [len_nums (P_kt 78), Option.bind_some, openInt_v, splitB_if, e1, e2, Bool.false_and]
        exact exB _ _
    have h138 : ∀ (id : Option Nat) (S : St) (a b c : Int), run kt (.func 138 [] []) [.sl id 3 [.v (.int .i64 a), .v (.int .i64 b), .v (.int .i64 c)]] S = some (.v (.bool (zerosM [a, b, c])), S) := fun id S a b c => spec138 [a, b, c] (by simp) S (own_ws id [a, b, c])
    have store : ∀ (kd : Int), validK l ⟨kd, t, off, n, j, ad, to, e, xs⟩ L et = (decide (L.length = 2) && (L.headD 0 == 32 && (storM (L.tail.headD 0) && zerosM [t, off, n]))) → ∀ S, ExB ((lenE (kt.at 78) 22 (nums L)).bind fun r41 => openInt r41 fun a42 => (splitB (.v (.bool (a42 == (2 : Int))))
 ((indexAddrE (kt.at 78) 22 (nums L) (.v (.int .i64 (0 : Int)))).bind fun r43 => (loadE (kt.at 78) 3 r43 S).bind fun r44 => openInt r44 fun a45 => (splitB (.v (.bool (a45 == (32 : Int))))
 ((indexAddrE (kt.at 78) 22 (nums L) (.v (.int .i64 (1 : Int)))).bind fun r46 => (loadE (kt.at 78) 3 r46 S).bind fun r47 => openInt r47 fun a48 => (run kt (.func 137 [] []) [(.v (.int .i64 a48))] S).bind fun p49 => openBool p49.1 fun b50 => (splitB (.v (.bool b50))
 ((run kt (.func 138 [] []) [(.sl (some (St.next p49.2)) 3 [(.v (.int .i64 t)), (.v (.int .i64 off)), (.v (.int .i64 n))])] (St.alloc p49.2 (.own 1 3))).bind fun p51 => openBool p51.1 fun b52 => (some ((.v (.bool b52)), p51.2)))
 ((some ((.v (.bool false)), p49.2)))))
 ((some ((.v (.bool false)), S)))))
 ((some ((.v (.bool false)), S))))) (validK l ⟨kd, t, off, n, j, ad, to, e, xs⟩ L et) := by
      intro kd hv S
      rw [hv]
      match L, hL with
      | [], _ => exact exB _ _
      | [x], _ => exact exB _ _
      | [x, y], _ =>
        show ExB _ (true && (x == 32 && (storM y && zerosM [t, off, n])))
        simp only [len_nums (P_kt 78), idx0 (P_kt 78), idx1 (P_kt 78), load_cp (P_kt 78), Option.bind_some, openInt_v, spec137, h138, openBool_v, splitB_if]
        cases (x == 32) <;> cases (storM y) <;> exact exB _ _
      | x :: y :: z :: r, hL =>
        have e1 : (((x :: y :: z :: r).length : Int) == 2) = false := by simp; omega
        have e2 : (decide ((x :: y :: z :: r).length = 2)) = false := by simp
        simp only [len_nums (P_kt 78), Option.bind_some, openInt_v, splitB_if, e1, e2, Bool.false_and]
        exact exB _ _
    refine exB_split (fun h => ?_) fun k4 => ?_
    · obtain rfl : k = 4 := by simpa using h
      exact store 4 rfl St0
    refine exB_split (fun h => ?_) fun k6 => ?_
    · obtain rfl : k = 6 := by simpa using h
      exact store 6 rfl St0
    have h139 : ∀ (n : Int) (S : St), run kt (.func 139 [] []) [nums L, .v (.int .i64 n)] S = some (.v (.bool (sameM L n)), S) := fun n S => spec139 L n (by omega) S (nums_ws L)
    have hnil : ∀ n : Int, 0 < n → sameM [] n = false := fun n hn => by
      have : ¬ (0 : Int) = n := by omega
      simp [sameM, this]
    have hty : ∀ (S : St) (K : Bool → Option (SV × St)) (K' : Int → Option (SV × St)), True := fun _ _ _ => trivial
    refine exB_split (fun h => ?_) fun k5 => ?_
    · obtain rfl : k = 5 := by simpa using h
      show ExB _ (sameM L (if off == 0 then 3 else 2) && (L.headD 0 == 32 && (decide (off ≥ 0) && (decide (off ≤ 2) && (n == 0 && hasTy l t 32)))))
      have main : ∀ (m : Int), 0 < m → ∀ S, ExB (((run kt (.func 139 [] []) [nums L, (.v (.int .i64 m))] S).bind fun p65 => openBool p65.1 fun b66 => (splitB (.v (.bool b66))
 ((indexAddrE (kt.at 78) 22 (nums L) (.v (.int .i64 (0 : Int)))).bind fun r67 => (loadE (kt.at 78) 3 r67 p65.2).bind fun r68 => openInt r68 fun a69 => (splitB (.v (.bool (a69 == (32 : Int))))
 ((splitB (.v (.bool (decide (off ≥ (0 : Int)))))
 ((splitB (.v (.bool (decide (off ≤ (2 : Int)))))
 ((splitB (.v (.bool (n == (0 : Int))))
 ((splitB (.v (.bool (decide (t ≥ (0 : Int)))))
 ((splitB (.v (.bool (decide (t < ((l.length : Nat) : Int)))))
 ((indexAddrE (kt.at 78) 22 (nums l) (.v (.int .i64 t))).bind fun r70 => (loadE (kt.at 78) 3 r70 p65.2).bind fun r71 => openInt r71 fun a72 => (some [(.v (.bool (a72 == (32 : Int))))]))
 ((some [(.v (.bool false))]))))
 ((some [(.v (.bool false))]))))
 ((some [(.v (.bool false))]))))
 ((some [(.v (.bool false))]))))
 ((some [(.v (.bool false))]))))
 ((some [(.v (.bool false))]))))
 ((some [(.v (.bool false))])))).bind fun vs73 => openHd vs73 fun y74 r75 => openBool y74 fun b76 => (some ((.v (.bool b76)), S))) (sameM L m && (L.headD 0 == 32 && (decide (off ≥ 0) && (decide (off ≤ 2) && (n == 0 && hasTy l t 32))))) := by
        intro m hm S
        simp only [h139, Option.bind_some, openBool_v, splitB_dec]
        simp only [splitB_if]
        match L, hL with
        | [], _ => rw [hnil m hm]; exact exB _ _
        | x :: r, _ =>
          rw [List.headD_cons, idx0 (P_kt 78)]
          simp only [load_cp (P_kt 78), Option.bind_some, openInt_v]
          unfold hasTy
          by_cases ht : t ≥ 0
          · by_cases ht2 : t < l.length
            · have ix := index_nums (P_kt 78) .i64 l t.toNat (by omega)
              rw [Int.toNat_of_nonneg ht] at ix
              have e2 : l.getD t.toNat 0 = l[t.toNat]'(by omega) := by simp [List.getD, show t.toNat < l.length by omega]
              simp only [ht, ht2, if_true, decide_true, Bool.true_and, ix, Option.bind_some, load_cp (P_kt 78), openInt_v, e2]
              by_cases h0 : off ≥ 0 <;> by_cases h2 : off ≤ 2 <;> simp only [h0, h2, if_true, if_false, decide_true, decide_false] <;> cases sameM (x :: r) m <;> cases (x == 32) <;> cases (n == 0) <;> exact exB _ _
            · simp only [ht, ht2, if_true, if_false, decide_true, decide_false, Bool.true_and, Bool.false_and, Bool.and_false]
              by_cases h0 : off ≥ 0 <;> by_cases h2 : off ≤ 2 <;> simp only [h0, h2, if_true, if_false, decide_true, decide_false] <;> cases sameM (x :: r) m <;> cases (x == 32) <;> cases (n == 0) <;> exact exB _ _
          · simp only [ht, if_false, decide_false, Bool.false_and, Bool.and_false]
            by_cases h0 : off ≥ 0 <;> by_cases h2 : off ≤ 2 <;> simp only [h0, h2, if_true, if_false, decide_true, decide_false] <;> cases sameM (x :: r) m <;> cases (x == 32) <;> cases (n == 0) <;> exact exB _ _
      refine exB_split (fun h => ?_) fun h => ?_
      · rw [h]; exact main 3 (by omega) St0
      · rw [h]; exact main 2 (by omega) St0
    have h76 : ∀ (id : Option Nat) (S : St) (a : Int), run kt (.func 76 [] []) [nums L, .sl id 1 [.v (.int .i64 a)]] S = some (.v (.bool (areM L [a])), S) := fun id S a => spec76 L [a] (by omega) S (nums_ws L) (own_ws id [a])
    have h762 : ∀ (id : Option Nat) (S : St) (a b : Int), run kt (.func 76 [] []) [nums L, .sl id 2 [.v (.int .i64 a), .v (.int .i64 b)]] S = some (.v (.bool (areM L [a, b])), S) := fun id S a b => spec76 L [a, b] (by omega) S (nums_ws L) (own_ws id [a, b])
    refine exB_split (fun h => ?_) fun k7 => ?_
    · obtain rfl : k = 7 := by simpa using h
      show ExB _ (areM L [32, 32] && (decide (n ≥ 1) && (decide (n ≤ 16) && (t == 0 && off == 0))))
      simp only [h762, Option.bind_some, openBool_v, splitB_dec]
      simp only [splitB_if]
      by_cases h0 : n ≥ 1 <;> by_cases h2 : n ≤ 16 <;> simp only [h0, h2, if_true, if_false, decide_true, decide_false] <;> cases areM L [32, 32] <;> cases (t == 0) <;> exact exB _ _
    refine exB_split (fun h => ?_) fun k8 => ?_
    · obtain rfl : k = 8 := by simpa using h
      show ExB _ (decide (1 ≤ L.length) && (decide (L.length ≤ 9) && (L.headD 0 == 1 && (decide (0 ≤ n) && (decide (n ≤ 1000000) && (t == 0 && (off == 0 && (decide (L.length = 1) || (sameM L.tail ((L.length : Int) - 1) && L.tail.headD 0 == 32)))))))))
      match L, hL, h139 with
      | [], _, _ => exact exB _ _
      | x :: r, hL, _ =>
        have hlen : ((x :: r).length : Int) = (r.length : Int) + 1 := by simp
        by_cases h9 : (x :: r).length ≤ 9
        · refine exB_bind (c := !(x == 1 && (decide (0 ≤ n) && (decide (n ≤ 1000000) && (t == 0 && off == 0))))) ?_ ?_
          · simp only [len_nums (P_kt 78), idx0 (P_kt 78), load_cp (P_kt 78), Option.bind_some, openInt_v, splitB_dec]
            simp only [splitB_if]
            rw [if_neg (by omega), if_neg (by omega)]
            have e1 : (x != 1) = !(x == 1) := rfl
            have e2 : (t != 0) = !(t == 0) := rfl
            have e3 : (off != 0) = !(off == 0) := rfl
            rw [e1, e2, e3]
            by_cases h0 : n < 0
            · have h0' : ¬ 0 ≤ n := by omega
              simp only [h0, h0', if_true, decide_false, Bool.false_and, Bool.and_false]
              cases (x == 1) <;> rfl
            · have h0' : 0 ≤ n := by omega
              by_cases h1 : n > 1000000
              · have h1' : ¬ n ≤ 1000000 := by omega
                simp only [h0, h0', h1, h1', if_true, if_false, decide_true, decide_false, Bool.false_and, Bool.and_false]
                cases (x == 1) <;> rfl
              · have h1' : n ≤ 1000000 := by omega
                simp only [h0, h0', h1, h1', if_true, if_false, decide_true, Bool.true_and]
                cases (x == 1) <;> cases (t == 0) <;> cases (off == 0) <;> rfl
          simp only [openHd_v, openBool_v, List.headD_cons, List.tail_cons]
          have hA : decide (1 ≤ (x :: r).length) = true := by simp
          have hB : decide ((x :: r).length ≤ 9) = true := by simpa using h9
          rw [hA, hB]
          have reorg : (true && (true && (x == 1 && (decide (0 ≤ n) && (decide (n ≤ 1000000) && (t == 0 && (off == 0 && (decide ((x :: r).length = 1) || (sameM r (((x :: r).length : Int) - 1) && r.headD 0 == 32))))))))) = ((x == 1 && (decide (0 ≤ n) && (decide (n ≤ 1000000) && (t == 0 && off == 0)))) && (decide ((x :: r).length = 1) || (sameM r (((x :: r).length : Int) - 1) && r.headD 0 == 32))) := by
            cases (x == 1) <;> cases decide (0 ≤ n) <;> cases decide (n ≤ 1000000) <;> cases (t == 0) <;> cases (off == 0) <;> rfl
          rw [reorg]
          cases (x == 1 && (decide (0 ≤ n) && (decide (n ≤ 1000000) && (t == 0 && off == 0)))) with
          | false => exact exB _ _
          | true =>
            rw [Bool.not_true, splitB_f]
            match r, hL, hlen, h9 with
            | [], _, _, _ => exact exB _ _
            | y :: q, hL, hlen, h9 =>
              have e1 : (((x :: y :: q).length : Int) == 1) = false := by simp; omega
              have e2 : decide ((x :: y :: q).length = 1) = false := by simp
              have h2 : ∀ (n : Int) (S : St), run kt (.func 139 [] []) [nums (y :: q), .v (.int .i64 n)] S = some (.v (.bool (sameM (y :: q) n)), S) := fun n S => spec139 (y :: q) n (by simp at hL ⊢; omega) S (nums_ws _)
              have hw : IntKind.wrap .i64 (((x :: y :: q).length : Int) - 1) = ((x :: y :: q).length : Int) - 1 := wrap_in (by omega) (by omega)
              simp only [len_nums (P_kt 78), idx1 (P_kt 78), load_cp (P_kt 78), slice1 (P_kt 78), Option.bind_some, openInt_v, splitB_if, e1, e2, h2, hw, openBool_v, Bool.false_or, Bool.true_and, List.headD_cons]
              cases sameM (y :: q) (((x :: y :: q).length : Int) - 1) <;> exact exB _ _
        · have hB : decide ((x :: r).length ≤ 9) = false := by simpa using h9
          rw [hB]
          simp only [len_nums (P_kt 78), Option.bind_some, openInt_v, splitB_dec]
          rw [if_neg (by omega), if_pos (by omega)]
          simp only [Bool.false_and, Bool.and_false]
          exact exB _ _
    refine exB_split (fun h => ?_) fun k9 => ?_
    · obtain rfl : k = 9 := by simpa using h
      show ExB _ (areM L [1] && (decide (j ≥ 1) && (decide (j ≤ 9) && zerosM [t, off, n])))
      simp only [h76, h138, Option.bind_some, openBool_v, splitB_dec]
      simp only [splitB_if]
      by_cases h0 : j ≥ 1 <;> by_cases h2 : j ≤ 9 <;> simp only [h0, h2, if_true, if_false, decide_true, decide_false] <;> cases areM L [1] <;> exact exB _ _
    have : validK l ⟨k, t, off, n, j, ad, to, e, xs⟩ L et = false := by
      unfold validK
      simp only [k1, k2, k3, k4, k5, k6, k7, k8, k9]
      rfl
    rw [this]
    exact exB _ _
end Go.Sv
end
