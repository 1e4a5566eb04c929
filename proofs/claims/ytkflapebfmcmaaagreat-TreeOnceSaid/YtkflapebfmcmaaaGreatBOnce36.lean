/- Parts of the proofs of this seat's laws. -/
import Derived.Test.YtkflapebfmcmaaaGreatBOnce35
section
namespace Go.Sv
open Go Go.Proofs Go.Proofs.YtkflapebfmcmaaaGreat
set_option linter.all false
set_option maxRecDepth 100000

theorem iteF (c b : Bool) : (if c = true then false else b) = (!c && b) := by cases c <;> rfl
section
variable (l : List Int) (t off n j ad to : Int) (e : Expr) (xs : List Atom)
theorem V1 (hn : noneM e = true) : validM l ⟨1, t, off, n, j, ad, to, e, xs⟩ = ((decide ((typesM l xs).length = 0) && (n == 4 || n == 8)) && restB t off 0 j 0 to) := by
  show (if ((true && (j != 0 || to != 0)) || ((false && ad != 0) || (true && !noneM e))) = true then false else (decide ((typesM l xs).length = 0) && ((n == 4 || n == 8) && (t == 0 && off == 0)))) = _
  rw [iteF]
  unfold restB
  simp only [bne, hn]
  cases (j == 0) <;> cases (to == 0) <;> cases decide ((typesM l xs).length = 0) <;> cases (n == 4 || n == 8) <;> cases (t == 0) <;> cases (off == 0) <;> rfl
theorem V2 (b : Bool) (hb : (decide ((typesM l xs).length = 0) && (exprTyM l e != 0 && hasTy l t (exprTyM l e))) = b) : validM l ⟨2, t, off, n, j, ad, to, e, xs⟩ = (b && restB 0 off n j ad to) := by
  subst hb
  show (if ((true && (j != 0 || to != 0)) || ((true && ad != 0) || (false && !noneM e))) = true then false else (decide ((typesM l xs).length = 0) && (n == 0 && (off == 0 && (exprTyM l e != 0 && hasTy l t (exprTyM l e)))))) = _
  rw [iteF]
  unfold restB
  generalize (exprTyM l e != 0 && hasTy l t (exprTyM l e)) = q
  simp only [bne]
  cases (j == 0) <;> cases (to == 0) <;> cases (ad == 0) <;> cases decide ((typesM l xs).length = 0) <;> cases (n == 0) <;> cases (off == 0) <;> cases q <;> rfl
theorem V3 (hn : noneM e = true) : validM l ⟨3, t, off, n, j, ad, to, e, xs⟩ = ((decide ((typesM l xs).length = 1) && placesM ((typesM l xs).headD 0) off) && restB t 0 n j ad to) := by
  show (if ((true && (j != 0 || to != 0)) || ((true && ad != 0) || (true && !noneM e))) = true then false else (decide ((typesM l xs).length = 1) && (t == 0 && (n == 0 && placesM ((typesM l xs).headD 0) off)))) = _
  rw [iteF]
  unfold restB
  simp only [bne, hn]
  cases (j == 0) <;> cases (to == 0) <;> cases (ad == 0) <;> cases decide ((typesM l xs).length = 1) <;> cases (n == 0) <;> cases (t == 0) <;> cases placesM ((typesM l xs).headD 0) off <;> rfl
theorem zeros3 (a b c : Int) : zerosM [a, b, c] = (a == 0 && (b == 0 && c == 0)) := by
  unfold zerosM
  simp only [List.any_cons, List.any_nil, bne]
  cases (a == 0) <;> cases (b == 0) <;> cases (c == 0) <;> rfl
theorem V46 (k : Int) (hk : k = 4 ∨ k = 6) (hn : noneM e = true) : validM l ⟨k, t, off, n, j, ad, to, e, xs⟩ = ((decide ((typesM l xs).length = 2) && ((typesM l xs).headD 0 == 32 && storM ((typesM l xs).tail.headD 0))) && restB t off n j ad to) := by
  have h : validM l ⟨k, t, off, n, j, ad, to, e, xs⟩ = (if ((true && (j != 0 || to != 0)) || ((true && ad != 0) || (true && !noneM e))) = true then false else (decide ((typesM l xs).length = 2) && ((typesM l xs).headD 0 == 32 && (storM ((typesM l xs).tail.headD 0) && zerosM [t, off, n])))) := by
    rcases hk with rfl | rfl <;> rfl
  rw [h, iteF]
  unfold restB
  simp only [bne, hn, zeros3]
  cases (j == 0) <;> cases (to == 0) <;> cases (ad == 0) <;> cases decide ((typesM l xs).length = 2) <;> cases (n == 0) <;> cases (t == 0) <;> cases (off == 0) <;> cases ((typesM l xs).headD 0 == 32) <;> cases storM ((typesM l xs).tail.headD 0) <;> rfl
theorem V5 (hn : noneM e = true) : validM l ⟨5, t, off, n, j, ad, to, e, xs⟩ = ((decide (off ≥ 0) && (decide (off ≤ 2) && (sameM (typesM l xs) (if off == 0 then 3 else 2) && ((typesM l xs).headD 0 == 32 && hasTy l t 32)))) && restB 0 0 n j ad to) := by
  show (if ((true && (j != 0 || to != 0)) || ((true && ad != 0) || (true && !noneM e))) = true then false else (sameM (typesM l xs) (if off == 0 then 3 else 2) && ((typesM l xs).headD 0 == 32 && (decide (off ≥ 0) && (decide (off ≤ 2) && (n == 0 && hasTy l t 32)))))) = _
  rw [iteF]
  unfold restB
  simp only [bne, hn]
  generalize sameM (typesM l xs) (if (off == 0) = true then 3 else 2) = q
  cases (j == 0) <;> cases (to == 0) <;> cases (ad == 0) <;> cases q <;> cases (n == 0) <;> cases decide (off ≥ 0) <;> cases decide (off ≤ 2) <;> cases ((typesM l xs).headD 0 == 32) <;> cases hasTy l t 32 <;> rfl
theorem V7 (hn : noneM e = true) : validM l ⟨7, t, off, n, j, ad, to, e, xs⟩ = ((areM (typesM l xs) [32, 32] && (decide (n ≥ 1) && decide (n ≤ 16))) && restB t off 0 j ad to) := by
  show (if ((true && (j != 0 || to != 0)) || ((true && ad != 0) || (true && !noneM e))) = true then false else (areM (typesM l xs) [32, 32] && (decide (n ≥ 1) && (decide (n ≤ 16) && (t == 0 && off == 0))))) = _
  rw [iteF]
  unfold restB
  simp only [bne, hn]
  cases (j == 0) <;> cases (to == 0) <;> cases (ad == 0) <;> cases areM (typesM l xs) [32, 32] <;> cases decide (n ≥ 1) <;> cases decide (n ≤ 16) <;> cases (t == 0) <;> cases (off == 0) <;> rfl
theorem V8 (hn : noneM e = true) : validM l ⟨8, t, off, n, j, ad, to, e, xs⟩ = ((decide (1 ≤ (typesM l xs).length) && (decide ((typesM l xs).length ≤ 9) && ((typesM l xs).headD 0 == 1 && ((decide ((typesM l xs).length = 1) || (sameM (typesM l xs).tail (((typesM l xs).length : Int) - 1) && (typesM l xs).tail.headD 0 == 32)) && (decide (0 ≤ n) && decide (n ≤ 1000000)))))) && restB t off 0 j ad to) := by
  show (if ((true && (j != 0 || to != 0)) || ((true && ad != 0) || (true && !noneM e))) = true then false else (decide (1 ≤ (typesM l xs).length) && (decide ((typesM l xs).length ≤ 9) && ((typesM l xs).headD 0 == 1 && (decide (0 ≤ n) && (decide (n ≤ 1000000) && (t == 0 && (off == 0 && (decide ((typesM l xs).length = 1) || (sameM (typesM l xs).tail (((typesM l xs).length : Int) - 1) && (typesM l xs).tail.headD 0 == 32)))))))))) = _
  rw [iteF]
  unfold restB
  simp only [bne, hn]
  generalize (decide ((typesM l xs).length = 1) || (sameM (typesM l xs).tail (((typesM l xs).length : Int) - 1) && (typesM l xs).tail.headD 0 == 32)) = q
  generalize decide (1 ≤ (typesM l xs).length) = q1
  generalize decide ((typesM l xs).length ≤ 9) = q2
  generalize ((typesM l xs).headD 0 == 1) = q3
  cases (j == 0) <;> cases (to == 0) <;> cases (ad == 0) <;> cases q <;> cases q1 <;> cases q2 <;> cases q3 <;> cases decide (0 ≤ n) <;> cases decide (n ≤ 1000000) <;> cases (t == 0) <;> cases (off == 0) <;> rfl
theorem V9 (hn : noneM e = true) : validM l ⟨9, t, off, n, j, ad, to, e, xs⟩ = ((areM (typesM l xs) [1] && (decide (j ≥ 1) && decide (j ≤ 9))) && restB t off n 0 ad 0) := by
  show (if ((false && (j != 0 || to != 0)) || ((true && ad != 0) || (true && !noneM e))) = true then false else (areM (typesM l xs) [1] && (decide (j ≥ 1) && (decide (j ≤ 9) && zerosM [t, off, n])))) = _
  rw [iteF]
  unfold restB
  simp only [bne, hn, zeros3]
  cases (ad == 0) <;> cases areM (typesM l xs) [1] <;> cases decide (j ≥ 1) <;> cases decide (j ≤ 9) <;> cases (t == 0) <;> cases (off == 0) <;> cases (n == 0) <;> rfl
end

theorem weak_ptr (b o : Nat) : weak (.ptr b o) = .ptr b o := rfl
/-- The closure that asks for a word. -/
theorem spec164 (L : List Int) (i : Int) (h0 : 0 ≤ i) {cs : List SV} {S : St} (h : Q2 L cs S) : run kt (.func 164 [] [.ptr 0 0]) [.v (.int .i64 i)] S = some (.v (.bool (decide (i < L.length) && L.getD i.toNat 0 == 32)), S) := by
  have hq : (quiet S).get 0 = .cells [nums L] := h.2.1
  refine go_pure ks_kt (f := 164) (fst := []) (cap := [.ptr 0 0]) (args := [.v (.int .i64 i)]) (S := S) h164 0 rfl (fn_kt 164 fn164) rfl (z := (.v (.bool (decide (i < L.length) && L.getD i.toNat 0 == 32)), quiet S)) ?_
  simp only [List.nil_append, List.cons_append, List.map_cons, List.map_nil, weak_ptr]
  refine (tell164 0 i (.ptr 0 0) (quiet S)).trans ?_
  have hl : loadE (kt.at 164) 22 (.ptr 0 0) (quiet S) = some (nums L) := by rw [ld1 (ag22 (P_kt 164)) (sz22 (P_kt 164)) hq]; rfl
  simp only [hl, Option.bind_some, len_nums (P_kt 164), openInt_v, splitB_dec]
  by_cases hi : i < L.length
  · have ix := index_nums (P_kt 164) .i64 L i.toNat (by omega)
    rw [Int.toNat_of_nonneg h0] at ix
    have e2 : L.getD i.toNat 0 = L[i.toNat]'(by omega) := by simp [List.getD, show i.toNat < L.length by omega]
    simp only [hi, if_true, ix, Option.bind_some, load_cp (P_kt 164), openInt_v, openHd_v, openBool_v, e2, decide_true, Bool.true_and]
  · simp only [hi, if_false, decide_false, Bool.false_and, Option.bind_some, openHd_v, openBool_v]
end Go.Sv
end
section
namespace Go.Sv
open Go Go.Proofs Go.Proofs.YtkflapebfmcmaaaGreat
set_option linter.all false
set_option maxRecDepth 100000

theorem exB_bindq {g : Option (List SV)} {c v : Bool} {K : List SV → Option (SV × St)} (h1 : g = some [.v (.bool c)]) (h2 : ExB (K [.v (.bool c)]) v) : ExB (g.bind K) v := exB_bind h1 h2
theorem falseR {S : St} {v : Bool} (h : v = false) : ExB ((some [SV.v (.bool false)]).bind fun vs => openHd vs fun y r => openBool y fun b => some (.v (.bool b), S)) v := by
  subst h; exact exB _ _

set_option maxHeartbeats 8000000 in
theorem spec115 (l : List Int) (s : Stmt) (hx : ∀ a ∈ s.l, a.ok) (hx2 : ∀ a ∈ s.e.l, a.ok) (h1 : s.l.length ≤ 1000000) (h2 : s.e.l.length ≤ 1000000) (S : St) : run kt (.func 115 [] []) [nums l, .agg s.t57.enc] S = some (.v (.bool (validM l s)), S) := by
  refine closed_bool h115 0 rfl (fn_kt 115 fn115) rfl ?_
  simp only [List.map_cons, List.map_nil, nums_ws, stmt_ws]
  have e0 := tell115 0 l.length (l.flatMap (ic .i64)) s.t57
  rw [show SV.sl none l.length (l.flatMap (ic .i64)) = nums l from rfl] at e0
  rw [e0]
  clear e0
  obtain ⟨k, t, off, n, j, ad, to, e, xs⟩ := s
  have hr := spec161 l xs hx h1 St0
  have hn : ∀ S, run kt (.func 163 [] []) [.agg [(.v (.int .i64 e.kind)), (.v (.int .i64 e.ty)), (.v (.int .i64 e.op)), (.v (.int .i64 e.off)), atoms e.l]] S = some (.v (.bool (noneM e)), S) := fun S => spec163 e S
  have he : ∀ S, run kt (.func 157 [] []) [nums l, .agg [(.v (.int .i64 e.kind)), (.v (.int .i64 e.ty)), (.v (.int .i64 e.op)), (.v (.int .i64 e.off)), atoms e.l]] S = some (.v (.int .i64 (exprTyM l e)), S) := fun S => spec157 l e hx2 h2 S
  simp only [Stmt.t57, hr, Option.bind_some, next0]
  have hL : (typesM l xs).length ≤ 1000000 := by rw [typesM_len]; exact h1
  -- the boxes
  rw [st1 (sz22 (P_kt 115)) (cs := [.v (.slice none 0 0)]) (by simp [St.alloc, St0]) (Nat.zero_le _) (by simp) rfl]
  have hS1 : ∃ S1, (St.put (St.alloc St0 (.cells [.v (.slice none 0 0)])) 0 (.cells (splice [.v (.slice none 0 0)] 0 [nums (typesM l xs)]))) = S1 ∧ S1.get 0 = .cells [nums (typesM l xs)] ∧ S1.floor = 0 ∧ S1.next = 1 := ⟨_, rfl, by simp [St.put, splice], rfl, rfl⟩
  obtain ⟨S1, e1, g1, f1, n1⟩ := hS1
  rw [e1]
  clear e1
  have hld : loadE (kt.at 115) 22 (.ptr 0 0) S1 = some (nums (typesM l xs)) := by rw [ld1 (ag22 (P_kt 115)) (sz22 (P_kt 115)) g1]; rfl
  simp only [hld, Option.bind_some, spec162 _ (show (typesM l xs).length ≤ 1000000000 by omega) 0, openBool_v, n1]
  refine exB_bind (c := (typesM l xs).contains 0 || (k != 2 && !noneM e)) ?_ ?_
  · simp only [hn, Option.bind_some, openBool_v]
    cases (typesM l xs).contains 0 <;> cases (k != 2) <;> rfl
  simp only [openHd_v, openBool_v]
  refine exB_split (fun h => ?_) fun hg0 => ?_
  · have : validM l ⟨k, t, off, n, j, ad, to, e, xs⟩ = false := by
      rcases Bool.or_eq_true_iff.1 h with h | h
      · unfold validM
        rw [validK_zero _ _ _ _ (by simpa using h)]
        split <;> rfl
      · unfold validM
        simp only [h, Bool.or_true, if_true]
    rw [this]; exact exB _ _
  obtain ⟨hz0, hg⟩ := Bool.or_eq_false_iff.1 hg0
  have hz : 0 ∉ typesM l xs := by simpa using hz0
  clear hg0 hz0
  have hval := typesM_valid l xs hz
  rw [stN (sz57 (P_kt 115)) (by decide) (b := 1) (by simp [St.alloc, n1]; rfl) (by show S1.floor ≤ 1; omega) rfl (by decide)]
  have hS2 : ∃ S2, (St.put (St.alloc S1 (.cells [(.v (.int .i64 (0 : Int))), (.v (.int .i64 (0 : Int))), (.v (.int .i64 (0 : Int))), (.v (.int .i64 (0 : Int))), (.v (.int .i64 (0 : Int))), (.v (.int .u32 (0 : Int))), (.v (.int .u32 (0 : Int))), (.v (.int .i64 (0 : Int))), (.v (.int .i64 (0 : Int))), (.v (.int .i64 (0 : Int))), (.v (.int .i64 (0 : Int))), (.v (.slice none 0 0)), (.v (.slice none 0 0))])) 1 (.cells (splice [(.v (.int .i64 (0 : Int))), (.v (.int .i64 (0 : Int))), (.v (.int .i64 (0 : Int))), (.v (.int .i64 (0 : Int))), (.v (.int .i64 (0 : Int))), (.v (.int .u32 (0 : Int))), (.v (.int .u32 (0 : Int))), (.v (.int .i64 (0 : Int))), (.v (.int .i64 (0 : Int))), (.v (.int .i64 (0 : Int))), (.v (.int .i64 (0 : Int))), (.v (.slice none 0 0)), (.v (.slice none 0 0))] 0 (T57.enc ⟨k, t, off, n, j, ad, to, e.kind, e.ty, e.op, e.off, atoms e.l, atoms xs⟩)))) = S2 ∧ Q2 (typesM l xs) (T57.enc ⟨k, t, off, n, j, ad, to, e.kind, e.ty, e.op, e.off, atoms e.l, atoms xs⟩) S2 :=
    ⟨_, rfl, by simp [St.put, splice, T57.enc], by simp [St.put, St.alloc, n1, g1], f1, by simp [St.put, St.alloc, n1]⟩
  obtain ⟨S2, e2, q2⟩ := hS2
  rw [e2]
  clear e2
  rw [stN (sz55 (P_kt 115)) (by decide) q2.1 (by rw [q2.2.2.1]; decide) rfl (by simp [T57.enc])]
  have q3 := q2.put (splice (T57.enc ⟨k, t, off, n, j, ad, to, e.kind, e.ty, e.op, e.off, atoms e.l, atoms xs⟩) 7 [.v (.int .i64 0), .v (.int .i64 0), .v (.int .i64 0), .v (.int .i64 0), .v (.slice none 0 0)])
  generalize St.put S2 1 _ = S3 at q3
  rw [st1 (sz53 (P_kt 115)) q3.1 (by rw [q3.2.2.1]; decide) (by simp [T57.enc, splice]) rfl]
  have q4 := q3.put (splice (splice (T57.enc ⟨k, t, off, n, j, ad, to, e.kind, e.ty, e.op, e.off, atoms e.l, atoms xs⟩) 7 [.v (.int .i64 0), .v (.int .i64 0), .v (.int .i64 0), .v (.int .i64 0), .v (.slice none 0 0)]) 12 [.v (.slice none 0 0)])
  generalize St.put S3 1 _ = S4 at q4
  rw [st1 (sz3 (P_kt 115)) q4.1 (by rw [q4.2.2.1]; decide) (by simp [T57.enc, splice]) rfl]
  have q5 : Q2 (typesM l xs) (restC t off n j ad to) (S4.put 1 (.cells (splice (splice (splice (T57.enc ⟨k, t, off, n, j, ad, to, e.kind, e.ty, e.op, e.off, atoms e.l, atoms xs⟩) 7 [.v (.int .i64 0), .v (.int .i64 0), .v (.int .i64 0), .v (.int .i64 0), .v (.slice none 0 0)]) 12 [.v (.slice none 0 0)]) 0 [.v (.int .i64 0)]))) := q4.put _
  generalize St.put S4 1 _ = S5 at q5
  clear q2 q3 q4 hld g1 f1 n1
  have v1 := V1 l t off n j ad to e xs
  have v2 := V2 l t off n j ad to e xs
  have v3 := V3 l t off n j ad to e xs
  have v46 := V46 l t off n j ad to e xs
  have v5 := V5 l t off n j ad to e xs
  have v7 := V7 l t off n j ad to e xs
  have v8 := V8 l t off n j ad to e xs
  have v9 := V9 l t off n j ad to e xs
  have vO : ∀ k, (k == 1) = false → (k == 2) = false → (k == 3) = false → (k == 4) = false → (k == 6) = false → (k == 5) = false → (k == 7) = false → (k == 8) = false → (k == 9) = false → validM l ⟨k, t, off, n, j, ad, to, e, xs⟩ = false := by
    intro k k1 k2 k3 k4 k6 k5 k7 k8 k9
    have : ∀ L et, validK l ⟨k, t, off, n, j, ad, to, e, xs⟩ L et = false := by
      intro L et
      unfold validK
      simp only [k1, k2, k3, k4, k5, k6, k7, k8, k9]
      rfl
    unfold validM
    rw [this]
    split <;> rfl
  have hl0 : ((typesM l xs).length : Int) = (typesM l xs).length := rfl
  generalize hLL : typesM l xs = L at *
  clear hLL hr
  have l0 : ((L.length : Int) == 0) = decide (L.length = 0) := len_eqb L 0
  have l1 : ((L.length : Int) == 1) = decide (L.length = 1) := len_eqb L 1
  have l2 : ((L.length : Int) == 2) = decide (L.length = 2) := len_eqb L 2
  refine exB_split (fun h => ?_) fun k1 => ?_
  · obtain rfl : k = 1 := by simpa using h
    rw [v1 (by simpa using hg)]
    refine q5.st24 (by simp [restC, splice]) 0 fun S' q => q.st3 (by simp [restC, splice]) 0 fun S'' q => ?_
    have q : Q2 L (restC t off 0 j 0 to) S'' := q
    refine exB_bind (c := decide (L.length = 0) && (n == 4 || n == 8)) ?_ ?_
    · simp only [q.ld, Option.bind_some, len_nums (P_kt 115), openInt_v, l0]
      rw [gor, gand]
    simp only [openHd_v, openBool_v]
    exact tailR q _ _
  refine exB_split (fun h => ?_) fun k2 => ?_
  · obtain rfl : k = 2 := by simpa using h
    rw [v2 _ rfl]
    refine q5.st3 (by simp [restC, splice]) 0 fun S' q => ?_
    have q : Q2 L (restC 0 off n j ad to) S' := q
    simp only [he, Option.bind_some, openInt_v]
    refine exB_bind (c := decide (L.length = 0) && (exprTyM l e != 0 && hasTy l t (exprTyM l e))) ?_ ?_
    · simp only [q.ld, Option.bind_some, len_nums (P_kt 115), openInt_v, l0, splitB_dec]
      unfold hasTy
      by_cases ht : t ≥ 0
      · by_cases ht2 : t < l.length
        · have ix := index_nums (P_kt 115) .i64 l t.toNat (by omega)
          rw [Int.toNat_of_nonneg ht] at ix
          have e2 : l.getD t.toNat 0 = l[t.toNat]'(by omega) := by simp [List.getD, show t.toNat < l.length by omega]
          simp only [ht, ht2, if_true, decide_true, Bool.true_and, ix, Option.bind_some, load_cp (P_kt 115), openInt_v, e2, gand]
          by_cases h0 : L.length = 0 <;> simp only [h0, if_true, if_false, decide_true, decide_false] <;> cases (exprTyM l e != 0) <;> rfl
        · simp only [ht, ht2, if_true, if_false, decide_true, decide_false, Bool.true_and, Bool.false_and, Bool.and_false, gand]
          by_cases h0 : L.length = 0 <;> simp only [h0, if_true, if_false, decide_true, decide_false] <;> cases (exprTyM l e != 0) <;> rfl
      · simp only [ht, if_false, decide_false, Bool.false_and, Bool.and_false, gand]
        by_cases h0 : L.length = 0 <;> simp only [h0, if_true, if_false, decide_true, decide_false] <;> cases (exprTyM l e != 0) <;> rfl
    simp only [openHd_v, openBool_v]
    exact tailR q _ _
  have hnone : noneM e = true := by
    have : (k != 2) = true := by simpa using k2
    rw [this] at hg; simpa using hg
  refine exB_split (fun h => ?_) fun k3 => ?_
  · obtain rfl : k = 3 := by simpa using h
    rw [v3 hnone]
    refine q5.st3 (by simp [restC, splice]) 0 fun S' q => ?_
    have q : Q2 L (restC t 0 n j ad to) S' := q
    have hlt : 0 < S'.next := by have := q.2.2.2; omega
    refine exB_bind (c := decide (L.length = 1) && placesM (L.headD 0) off) ?_ ?_
    · simp only [hlt, decide_true, if_true, q.ld, Option.bind_some, len_nums (P_kt 115), openInt_v, l1]
      match L with
      | [] => rfl
      | [x] => simp only [idx0 (P_kt 115), Option.bind_some, loadK_cp (P_kt 115), openInt_v, spec165, openBool_v]; rfl
      | x :: y :: r => simp [splitB_f]
    simp only [openHd_v, openBool_v]
    exact tailR q _ _
  have word : ∀ (i : Int), 0 ≤ i → ∀ {cs : List SV} {S : St}, Q2 L cs S → run kt (.func 164 [] [.ptr 0 0]) [.v (.int .i64 i)] S = some (.v (.bool (decide (i < L.length) && L.getD i.toNat 0 == 32)), S) := fun i hi cs S h => spec164 L i hi h
  refine exB_split (fun h => ?_) fun k4 => ?_
  · obtain rfl : k = 4 := by simpa using h
    rw [v46 4 (.inl rfl) hnone]
    simp only [q5.ld, Option.bind_some, len_nums (P_kt 115), openInt_v, l2]
    match L, q5, hval, word with
    | [], q5, _, _ => exact falseR rfl
    | [x], q5, _, _ => exact falseR rfl
    | [x, y], q5, _, word =>
      have w0 := word 0 (by decide) q5
      simp only [w0, q5.ld, Option.bind_some, openBool_v, idx1 (P_kt 115), load_cp (P_kt 115), openInt_v, spec166]
      show ExB _ ((true && (x == 32 && storM y)) && _)
      have : (decide ((0 : Int) < ([x, y] : List Int).length) && ([x, y] : List Int).getD (0 : Int).toNat 0 == 32) = (x == 32) := by simp
      rw [this, show decide (([x, y] : List Int).length = 2) = true from rfl, splitB_t]
      refine exB_split (fun h => ?_) fun h => ?_
      · rw [h, Bool.true_and, Bool.true_and]; exact tailR q5 _ _
      · rw [h]; exact falseR rfl
    | x :: y :: z :: r, q5, _, _ =>
      have e2 : decide ((x :: y :: z :: r).length = 2) = false := by simp
      rw [e2]; exact falseR rfl
  refine exB_split (fun h => ?_) fun k6 => ?_
  · obtain rfl : k = 6 := by simpa using h
    rw [v46 6 (.inr rfl) hnone]
    simp only [q5.ld, Option.bind_some, len_nums (P_kt 115), openInt_v, l2]
    match L, q5, hval, word with
    | [], q5, _, _ => exact falseR rfl
    | [x], q5, _, _ => exact falseR rfl
    | [x, y], q5, _, word =>
      have w0 := word 0 (by decide) q5
      simp only [w0, q5.ld, Option.bind_some, openBool_v, idx1 (P_kt 115), load_cp (P_kt 115), openInt_v, spec166]
      show ExB _ ((true && (x == 32 && storM y)) && _)
      have : (decide ((0 : Int) < ([x, y] : List Int).length) && ([x, y] : List Int).getD (0 : Int).toNat 0 == 32) = (x == 32) := by simp
      rw [this, show decide (([x, y] : List Int).length = 2) = true from rfl, splitB_t]
      refine exB_split (fun h => ?_) fun h => ?_
      · rw [h, Bool.true_and, Bool.true_and]; exact tailR q5 _ _
      · rw [h]; exact falseR rfl
    | x :: y :: z :: r, q5, _, _ =>
      have e2 : decide ((x :: y :: z :: r).length = 2) = false := by simp
      rw [e2]; exact falseR rfl
  refine exB_split (fun h => ?_) fun k5 => ?_
  · obtain rfl : k = 5 := by simpa using h
    rw [v5 hnone]
    refine q5.st3 (by simp [restC, splice]) 0 fun S' q => q.st3 (by simp [restC, splice]) 0 fun S'' q => ?_
    have q0 : Q2 L (restC 0 0 n j ad to) S'' := q
    have q := q0.alloc (.own 1 3)
    generalize hSA : St.alloc S'' (.own 1 3) = SA at q
    have hlt : 0 < SA.next := by have := q.2.2.2; omega
    refine exB_bind (c := decide (off ≥ 0) && (decide (off ≤ 2) && (sameM L (if off == 0 then 3 else 2) && (L.headD 0 == 32 && hasTy l t 32)))) ?_ ?_
    · simp only [hlt, decide_true, if_true, q.ld, Option.bind_some, len_nums (P_kt 115), openInt_v, splitB_dec]
      by_cases h0 : off ≥ 0
      · by_cases h3 : off ≤ 2
        · have h3' : off < ((3 : Nat) : Int) := by omega
          have ix : indexAddrE (kt.at 115) 22 (.sl (some (St.next S'')) 3 [(.v (.int .i64 (3 : Int))), (.v (.int .i64 (2 : Int))), (.v (.int .i64 (2 : Int)))]) (.v (.int .i64 off)) = some (.cp [.v (.int .i64 (if off == 0 then 3 else 2))]) := by
            have hP : (kt.at 115).P = Tryz.prog := P_kt 115
            simp only [indexAddrE, hP, Tryz.underlying22, sz3 (P_kt 115), Option.bind_some]
            have hc : off = 0 ∨ off = 1 ∨ off = 2 := by omega
            rcases hc with rfl | rfl | rfl <;> simp
          simp only [h0, h3, h3', if_true, decide_true, Bool.true_and, ix, Option.bind_some, loadK_cp (P_kt 115), openInt_v]
          have hm : (0 : Int) < (if (off == 0) = true then 3 else 2) := by split <;> decide
          generalize (if (off == 0) = true then (3 : Int) else 2) = m at hm
          have key := any_ne L m hm 32 (by decide)
          have c109 : run kt (.func 109 [] []) [nums L, .func 167 [] []] SA = some (.v (.bool (L.any fun x => x != 32)), SA) := spec109 L (by omega) (fun x => x != 32) 167 [] [] SA (fun x _ => spec167 x _)
          have key2 : (sameM L m && (L.headD 0 == 32 && hasTy l t 32)) = (((L.length : Int) == m) && ((!(L.any fun x => x != 32)) && hasTy l t 32)) := by
            rw [← Bool.and_assoc, ← key, Bool.and_assoc]
          rw [key2]
          unfold hasTy
          by_cases ht : t ≥ 0
          · by_cases ht2 : t < l.length
            · have ix2 := index_nums (P_kt 115) .i64 l t.toNat (by omega)
              rw [Int.toNat_of_nonneg ht] at ix2
              have e2 : l.getD t.toNat 0 = l[t.toNat]'(by omega) := by simp [List.getD, show t.toNat < l.length by omega]
              simp only [ht, ht2, if_true, decide_true, Bool.true_and, ix2, Option.bind_some, loadK_cp (P_kt 115), openInt_v, e2, c109, openBool_v]
              cases ((L.length : Int) == m) <;> cases (l[t.toNat]'(by omega) == 32) <;> cases (L.any fun x => x != 32) <;> rfl
            · simp only [ht, ht2, if_true, if_false, decide_true, decide_false, Bool.true_and, Bool.false_and, Bool.and_false]
              cases ((L.length : Int) == m) <;> rfl
          · simp only [ht, if_false, decide_false, Bool.false_and, Bool.and_false]
            cases ((L.length : Int) == m) <;> rfl
        · have h3' : ¬ off < ((3 : Nat) : Int) := by omega
          simp only [h0, h3, h3', if_true, if_false, decide_true, decide_false, Bool.true_and, Bool.false_and, splitB_t, splitB_f]
      · simp only [h0, if_false, decide_false, Bool.false_and, splitB_t, splitB_f]
    simp only [openHd_v, openBool_v]
    exact tailR q _ _
  refine exB_split (fun h => ?_) fun k7 => ?_
  · obtain rfl : k = 7 := by simpa using h
    rw [v7 hnone]
    refine q5.st3 (by simp [restC, splice]) 0 fun S' q => ?_
    have q : Q2 L (restC t off 0 j ad to) S' := q
    simp only [q.ld, Option.bind_some, len_nums (P_kt 115), openInt_v, l2]
    match L, q, word with
    | [], q, _ => rw [areM_eq]; exact falseR rfl
    | [x], q, _ => rw [areM_eq]; exact falseR (by simp)
    | [x, y], q, word =>
      have w0 := word 0 (by decide) q
      have w1 := word 1 (by decide) q
      have t0 : (decide ((0 : Int) < ([x, y] : List Int).length) && ([x, y] : List Int).getD (0 : Int).toNat 0 == 32) = (x == 32) := by simp
      have t1 : (decide ((1 : Int) < ([x, y] : List Int).length) && ([x, y] : List Int).getD (1 : Int).toNat 0 == 32) = (y == 32) := by simp
      rw [t0] at w0
      rw [t1] at w1
      simp only [w0, w1, Option.bind_some, openBool_v, are2]
      have e2 : decide (([x, y] : List Int).length = 2) = true := rfl
      rw [e2, splitB_t]
      refine exB_split (fun h => ?_) fun h => ?_
      · refine exB_split (fun h' => ?_) fun h' => ?_
        · refine exB_split (fun h'' => ?_) fun h'' => ?_
          · rw [h, h', show decide (n ≥ 1) = true from decide_eq_true (of_decide_eq_true h'')]; exact tailR q _ _
          · rw [show decide (n ≥ 1) = false from decide_eq_false (of_decide_eq_false h'')]; exact falseR (by simp)
        · rw [h']; exact falseR (by simp)
      · rw [h]; exact falseR (by simp)
    | x :: y :: z :: r, q, _ =>
      have e2 : decide ((x :: y :: z :: r).length = 2) = false := by simp
      rw [e2, areM_eq]; exact falseR (by simp)
  refine exB_split (fun h => ?_) fun k8 => ?_
  · obtain rfl : k = 8 := by simpa using h
    rw [v8 hnone]
    refine q5.st3 (by simp [restC, splice]) 0 fun S' q => ?_
    have q : Q2 L (restC t off 0 j ad to) S' := q
    refine exB_bind (c := decide (1 ≤ L.length) && (decide (L.length ≤ 9) && (L.headD 0 == 1 && ((decide (L.length = 1) || (sameM L.tail ((L.length : Int) - 1) && L.tail.headD 0 == 32)) && (decide (0 ≤ n) && decide (n ≤ 1000000)))))) ?_ ?_
    · simp only [q.ld, Option.bind_some, len_nums (P_kt 115), openInt_v, splitB_dec]
      match L, q, hL with
      | [], _, _ => rfl
      | x :: r, q, hL =>
        have hlen : ((x :: r).length : Int) = (r.length : Int) + 1 := by simp
        have hA : decide (1 ≤ (x :: r).length) = true := by simp
        rw [if_pos (by omega), hA]
        by_cases h9 : (x :: r).length ≤ 9
        · rw [if_pos (by omega)]
          have c109 : run kt (.func 109 [] []) [nums r, .func 168 [] []] S' = some (.v (.bool (r.any fun x => x != 32)), S') := spec109 r (by simp at hL; omega) (fun x => x != 32) 168 [] [] S' (fun x _ => spec168 x _)
          simp only [idx0 (P_kt 115), Option.bind_some, load_cp (P_kt 115), openInt_v, slice1 (P_kt 115), c109, openBool_v, List.headD_cons, List.tail_cons]
          have key : (decide ((x :: r).length = 1) || (sameM r (((x :: r).length : Int) - 1) && r.headD 0 == 32)) = !(r.any fun x => x != 32) := by
            match r with
            | [] => rfl
            | y :: q' =>
              have e1 : decide ((x :: y :: q').length = 1) = false := by simp
              have e3 : ((x :: y :: q').length : Int) - 1 = ((y :: q').length : Int) := by simp
              rw [e1, e3, ← any_ne (y :: q') _ (by simp) 32 (by decide)]
              simp
          rw [key]
          have hB : decide ((x :: r).length ≤ 9) = true := by simpa using h9
          rw [hB]
          by_cases hn0 : n ≥ 0
          · have hn0' : 0 ≤ n := hn0
            simp only [hn0, hn0', if_true, decide_true, Bool.true_and]
            cases (x == 1) <;> cases (r.any fun x => x != 32) <;> rfl
          · have hn0' : ¬ 0 ≤ n := hn0
            simp only [hn0, hn0', if_false, decide_false, Bool.false_and, Bool.and_false]
            cases (x == 1) <;> cases (r.any fun x => x != 32) <;> rfl
        · have hB : decide ((x :: r).length ≤ 9) = false := by simpa using h9
          rw [if_neg (by omega), hB, Bool.false_and, Bool.and_false]
    simp only [openHd_v, openBool_v]
    exact tailR q _ _
  refine exB_split (fun h => ?_) fun k9 => ?_
  · obtain rfl : k = 9 := by simpa using h
    rw [v9 hnone]
    refine q5.st24 (by simp [restC, splice]) 0 fun S' q => q.st3 (by simp [restC, splice]) 0 fun S'' q => ?_
    have q : Q2 L (restC t off n 0 ad 0) S'' := q
    refine exB_bind (c := areM L [1] && (decide (j ≥ 1) && decide (j ≤ 9))) ?_ ?_
    · simp only [q.ld, Option.bind_some, len_nums (P_kt 115), openInt_v, l1]
      match L with
      | [] => rw [areM_eq]; rfl
      | [x] =>
        simp only [idx0 (P_kt 115), Option.bind_some, load_cp (P_kt 115), openInt_v, gand]
        have : areM [x] [1] = (x == 1) := by rw [areM_eq]; by_cases h : x = 1 <;> simp [h]
        rw [this]
        rfl
      | x :: y :: r =>
        have : areM (x :: y :: r) [1] = false := by rw [areM_eq]; simp
        rw [this]; simp [splitB_f]
    simp only [openHd_v, openBool_v]
    exact tailR q _ _
  rw [vO k k1 k2 k3 k4 k6 k5 k7 k8 k9]
  exact falseR rfl
end Go.Sv
end
