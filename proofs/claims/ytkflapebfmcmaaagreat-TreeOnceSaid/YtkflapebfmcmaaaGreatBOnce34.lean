/- Parts of the proofs of this seat's laws. -/
import Derived.Test.YtkflapebfmcmaaaGreatBOnce33
section
namespace Go.Sv
open Go Go.Proofs Go.Proofs.YtkflapebfmcmaaaGreat
set_option linter.all false
set_option maxRecDepth 100000

theorem sameM_zero (L : List Int) (n : Int) (hn : 0 < n) (h : sameM L n = true) : (L.length : Int) = n ∧ 0 ∉ L := by
  simp only [sameM, Bool.and_eq_true, decide_eq_true_eq, Bool.not_eq_true', List.any_eq_false, Bool.or_eq_true, not_or] at h
  refine ⟨h.1, fun h0 => ?_⟩
  exact absurd (h.2 0 h0).1 (by simp)

/-- No type: no type. -/
theorem tyM_zero (k ty op off : Int) (L : List Int) (h : 0 ∈ L) : tyM k ty op off L = 0 := by
  have hok : okM k ty op off L = false := by
    have ar : ∀ m : List Int, 0 ∉ m → areM L m = false := by
      intro m hm
      rw [areM_eq]
      have : ¬ L = m := by intro e; rw [e] at h; exact hm h
      simpa using this
    have sm : ∀ n : Int, 0 < n → sameM L n = false := by
      intro n hn
      cases e : sameM L n with
      | false => rfl
      | true => exact ((sameM_zero L n hn e).2 h).elim
    unfold okM
    by_cases k1 : (k == 1) = true
    · rw [if_pos k1]
      match L, h with
      | [x], h => simp at h; subst h; simp
      | x :: y :: r, _ => simp
    rw [if_neg k1]
    by_cases k2 : (k == 2) = true
    · rw [if_pos k2]
      match L, h with
      | x :: r, _ => simp
    rw [if_neg k2]
    by_cases k3 : (k == 3) = true
    · rw [if_pos k3]
      match L, h with
      | [x], h =>
        simp at h; subst h
        have : unaryM op 0 ty = false := by
          unfold unaryM
          repeat' split
          all_goals simp
        simp [this]
      | x :: y :: r, _ => simp
    rw [if_neg k3]
    by_cases k4 : (k == 4) = true
    · rw [if_pos k4]
      have : binaryM op L ty = false := by
        unfold binaryM
        rw [ar [32, 32] (by simp), ar [128, 128] (by simp), ar [128, 32] (by simp), sm 2 (by decide)]
        repeat' split
        all_goals rfl
      rw [this]; simp
    rw [if_neg k4]
    rw [ar [32] (by simp)]
    by_cases k5 : (k == 5) = true
    · rw [if_pos k5]; rfl
    rw [if_neg k5]
    by_cases k6 : (k == 6) = true
    · rw [if_pos k6]; rfl
    rw [if_neg k6]
    by_cases k9 : (k == 9) = true
    · rw [if_pos k9]; rfl
    rw [if_neg k9]
    by_cases k7 : (k == 7) = true
    · rw [if_pos k7]
      match L, h, sm with
      | [], _, _ => simp
      | [x], _, _ => simp
      | [x, y], _, _ => simp
      | [x, y, z], h, _ =>
        by_cases hx : x = 1
        · subst hx
          have h' : (0 : Int) ∈ [y, z] := by simpa using h
          have : sameM [y, z] 2 = false := by
            cases e : sameM [y, z] 2 with
            | false => rfl
            | true => exact ((sameM_zero [y, z] 2 (by decide) e).2 h').elim
          simp [this]
        · simp [hx]
      | x :: y :: z :: u :: r, _, _ => simp
    rw [if_neg k7]
    by_cases k8 : (k == 8) = true
    · rw [if_pos k8, sm _ (by split <;> decide)]; simp
    rw [if_neg k8]
  unfold tyM
  rw [hok]; rfl

theorem atomTy_valid (l : List Int) (a : Atom) : atomTy l a = 0 ∨ bytesM (atomTy l a) ≠ 0 := by
  unfold atomTy
  split
  · split
    · rename_i h
      refine .inr ?_
      unfold fitsM at h
      split at h
      · cases h
      · split at h
        · rename_i h1; have : a.ty = 1 := by simpa using h1
          rw [this]; decide
        split at h
        · rename_i h1; have : a.ty = 8 := by simpa using h1
          rw [this]; decide
        split at h
        · rename_i h1; have : a.ty = 16 := by simpa using h1
          rw [this]; decide
        · have : bytesM a.ty > 0 := by simpa using h
          omega
    · exact .inl rfl
  · split
    · rename_i h2
      split
      · exact .inl rfl
      · rename_i h3
        refine .inr ?_
        simp only [Bool.or_eq_true, not_or, beq_iff_eq] at h3
        exact h3.2
    · exact .inl rfl
theorem typesM_valid (l : List Int) (xs : List Atom) (h : 0 ∉ typesM l xs) : ∀ x ∈ typesM l xs, bytesM x ≠ 0 := by
  intro x hx
  obtain ⟨a, ha, rfl⟩ := List.mem_map.1 hx
  rcases atomTy_valid l a with h0 | h0
  · rw [h0] at hx; exact (h hx).elim
  · exact h0

theorem mapU {k : K} {t e : TypeId} (ht : intMap? k t = some e) {b : Nat} {y : Int} {x : SV} {S : St} {es : List (SV × SV)} (hg : S.get b = .map es) (hf : S.floor ≤ b) (hx : single x = true) : mapUpdateE k t (.map b) (.v (.int .i64 y)) x S = some (S.put b (.map (setK y x es))) := by
  simp [mapUpdateE, ht, hg, hf, hx]
theorem mapL {k : K} {t e : TypeId} (ht : intMap? k t = some e) {z : Value} (hz : zflat? k e = some z) {b : Nat} {y : Int} {S : St} {es : List (SV × SV)} (hg : S.get b = .map es) : lookupE k t (.map b) (.v (.int .i64 y)) false S = some ((findK y es).getD (.v z)) := by
  simp only [lookupE, ht, hz, hg, Option.bind_some]
  cases findK y es <;> rfl

theorem im157 : intMap? (kt.at 157) 89 = some 3 := by kernel_rfl
theorem z157 : zflat? (kt.at 157) 3 = some (.int .i64 0) := by kernel_rfl

theorem len_eqb (L : List Int) (n : Nat) : ((L.length : Int) == (n : Int)) = decide (L.length = n) := by
  by_cases h : L.length = n
  · simp [h]
  · have : ¬ (L.length : Int) = n := by omega
    simp [h, this]
theorem only_tail2 (b : Bool) (t : Int) (S : St) : ((run kt (.func 196 [] []) [(.v (.bool b)), (.v (.int .i64 t))] S).bind fun p => openInt p.1 fun a => (some [SV.v (.int .i64 a)])) = some [.v (.int .i64 (onlyM b t))] := by
  rw [spec196]
  rfl
theorem only_eq {b c : Bool} {t : Int} (h : (b = true ∧ bytesM t ≠ 0) ↔ c = true) : onlyM b t = if (!c) = true then 0 else t := by
  unfold onlyM
  by_cases hc : c = true
  · rw [if_pos (h.2 hc), hc]; rfl
  · rw [if_neg (fun x => hc (h.1 x))]
    have : c = false := by simpa using hc
    rw [this]; rfl

set_option maxHeartbeats 4000000 in
theorem spec157 (l : List Int) (e : Expr) (hx : ∀ a ∈ e.l, a.ok) (hl : e.l.length ≤ 1000000) (S : St) : run kt (.func 157 [] []) [nums l, .agg e.t55.enc] S = some (.v (.int .i64 (exprTyM l e)), S) := by
  refine closed_int h157 0 rfl (fn_kt 157 fn157) rfl ?_
  simp only [List.map_cons, List.map_nil, nums_ws, expr_ws]
  have e0 := tell157 0 l.length (l.flatMap (ic .i64)) e.t55
  rw [show SV.sl none l.length (l.flatMap (ic .i64)) = nums l from rfl] at e0
  rw [e0]
  clear e0
  obtain ⟨k, ty, op, off, xs⟩ := e
  have hr := spec161 l xs hx hl St0
  simp only [Expr.t55, hr, Option.bind_some]
  unfold exprTyM
  simp only []
  have hL : (typesM l xs).length ≤ 1000000 := by rw [typesM_len]; exact hl
  have hval := typesM_valid l xs
  generalize typesM l xs = L at hL hval
  clear hr hl hx
  rw [spec162 L (by omega) 0 St0]
  simp only [Option.bind_some, openBool_v]
  refine exI_split (fun h => ?_) fun hc => ?_
  · rw [tyM_zero k ty op off L (by simpa using h)]; exact exI _ _
  have hz : 0 ∉ L := by simpa using hc
  have hval := hval hz
  clear hc
  rw [gand]
  simp only [Option.bind_some, openHd_v, openBool_v, len_nums (P_kt 157), openInt_v]
  have i0 : ∀ x r, L = x :: r → indexAddrE (kt.at 157) 22 (nums L) (.v (.int .i64 0)) = some (.cp [.v (.int .i64 x)]) := by
    rintro x r rfl; exact idx0 (P_kt 157) x r
  have l1 : ((L.length : Int) == 1) = decide (L.length = 1) := len_eqb L 1
  have l0 : ((L.length : Int) == 0) = decide (L.length = 0) := len_eqb L 0
  have l2 : ((L.length : Int) == 2) = decide (L.length = 2) := len_eqb L 2
  have l3 : ((L.length : Int) == 3) = decide (L.length = 3) := len_eqb L 3
  simp only [l0, l1, l2, l3]
  rw [gand]
  simp only [Option.bind_some, openHd_v, openBool_v]
  refine exI_split (fun h => ?_) fun n1 => ?_
  · obtain ⟨hk, h1⟩ := Bool.and_eq_true_iff.1 h
    obtain rfl : k = 1 := by simpa using hk
    match L, i0, hval, h1 with
    | [x], i0, hval, _ =>
      have hv := hval x (by simp)
      have hx0 : x ≠ 0 := by intro h; exact hz (by simp [h])
      simp only [i0 x [] rfl, Option.bind_some, loadK_cp (P_kt 157), openInt_v, only_tail2, splitB_if]
      have : tyM 1 ty op off [x] = onlyM ((op == 0 && off == 0) && (ty == x)) ty := by
        rw [show tyM 1 ty op off [x] = if (!(true && (x != 0 && (x == ty && (op == 0 && off == 0))))) = true then 0 else ty from rfl]
        refine (only_eq ?_).symm
        by_cases hq : ty = x
        · subst hq; simp [hv, hx0]
        · have hq' : ¬ x = ty := fun e => hq e.symm
          simp [hq, hq']
      rw [this]
      cases (op == 0 && off == 0) <;> exact exI _ _
  rw [gand]
  simp only [Option.bind_some, openHd_v, openBool_v]
  refine exI_split (fun h => ?_) fun n2 => ?_
  · obtain ⟨hk, h1⟩ := Bool.and_eq_true_iff.1 h
    obtain rfl : k = 2 := by simpa using hk
    match L, h1 with
    | [], _ =>
      simp only [spec165, Option.bind_some, openBool_v, only_tail2, splitB_if]
      have : tyM 2 ty op off [] = onlyM ((op == 0) && placesM ty off) ty := by
        rw [show tyM 2 ty op off [] = if (!(true && (op == 0 && placesM ty off))) = true then 0 else ty from rfl]
        refine (only_eq ?_).symm
        constructor
        · rintro ⟨h, _⟩; simpa using h
        · intro h
          have h' : (op == 0 && placesM ty off) = true := by simpa using h
          refine ⟨h', ?_⟩
          have : placesM ty off = true := (Bool.and_eq_true_iff.1 h').2
          unfold placesM storM at this
          intro hb; simp [hb] at this
      rw [this]
      cases (op == 0) <;> exact exI _ _
  rw [gand]
  simp only [Option.bind_some, openHd_v, openBool_v]
  refine exI_split (fun h => ?_) fun n3 => ?_
  · obtain ⟨hk, h1⟩ := Bool.and_eq_true_iff.1 h
    obtain rfl : k = 3 := by simpa using hk
    match L, i0, hval, h1 with
    | [x], i0, hval, _ =>
      have hu := spec197 ⟨3, ty, op, off, xs⟩ x (hval x (by simp)) St0
      simp only [Expr.t55] at hu
      simp only [i0 x [] rfl, Option.bind_some, loadK_cp (P_kt 157), openInt_v, hu]
      exact exI _ _
  rw [gand]
  simp only [Option.bind_some, openHd_v, openBool_v]
  refine exI_split (fun h => ?_) fun n4 => ?_
  · obtain ⟨hk, h1⟩ := Bool.and_eq_true_iff.1 h
    obtain rfl : k = 4 := by simpa using hk
    match L, hval, h1 with
    | [x, y], hval, _ =>
      have hu := spec198 ⟨4, ty, op, off, xs⟩ x y (hval x (by simp)) (hval y (by simp)) St0
      simp only [Expr.t55] at hu
      simp only [idx0 (P_kt 157), idx1 (P_kt 157), Option.bind_some, loadK_cp (P_kt 157), openInt_v, hu]
      exact exI _ _
  refine exI_bind (c := (k == 5 || k == 6) && decide (L.length = 1)) ?_ ?_
  · cases (k == 5) <;> cases (k == 6) <;> rfl
  simp only [openHd_v, openBool_v]
  refine exI_split (fun h => ?_) fun n5 => ?_
  · obtain ⟨hk, h1⟩ := Bool.and_eq_true_iff.1 h
    match L, i0, hval, h1 with
    | [x], i0, hval, _ =>
      have hv := hval x (by simp)
      simp only [i0 x [] rfl, Option.bind_some, loadK_cp (P_kt 157), openInt_v, openBool_v, spec166, only_tail2, splitB_if]
      have hok : okM k ty op off [x] = (areM [x] [32] && (storM ty && (op == 0 && off == 0))) := by
        rcases Bool.or_eq_true_iff.1 hk with hk | hk
        · obtain rfl : k = 5 := by simpa using hk
          rfl
        · obtain rfl : k = 6 := by simpa using hk
          rfl
      have hk9 : (k == 9) = false := by
        rcases Bool.or_eq_true_iff.1 hk with hk | hk
        · obtain rfl : k = 5 := by simpa using hk
          rfl
        · obtain rfl : k = 6 := by simpa using hk
          rfl
      have : tyM k ty op off [x] = onlyM ((op == 0 && off == 0) && (x == 32 && storM ty)) ty := by
        unfold tyM
        rw [hok, hk9, areM_eq]
        refine (only_eq ?_).symm
        constructor
        · rintro ⟨h, _⟩; simp at h ⊢; simp [h]
        · intro h
          simp at h ⊢
          refine ⟨by simp [h], ?_⟩
          have h2 : storM ty = true := h.2.1
          unfold storM at h2
          intro hb; simp [hb] at h2
      rw [this]
      cases (op == 0 && off == 0) <;> cases (x == 32) <;> exact exI _ _
  rw [gand]
  simp only [Option.bind_some, openHd_v, openBool_v]
  refine exI_split (fun h => ?_) fun n9 => ?_
  · obtain ⟨hk, h1⟩ := Bool.and_eq_true_iff.1 h
    obtain rfl : k = 9 := by simpa using hk
    match L, i0, hval, h1 with
    | [x], i0, hval, _ =>
      have hv := hval x (by simp)
      simp only [i0 x [] rfl, Option.bind_some, load_cp (P_kt 157), openInt_v, openBool_v, spec166, only_tail2, splitB_if]
      have : tyM 9 ty op off [x] = onlyM ((op == 0 && off == 0) && (x == 32 && storM ty)) 32 := by
        rw [show tyM 9 ty op off [x] = if (!(areM [x] [32] && (storM ty && (op == 0 && off == 0)))) = true then 0 else 32 from rfl, areM_eq]
        refine (only_eq ?_).symm
        constructor
        · rintro ⟨h, _⟩; simp at h ⊢; simp [h]
        · intro h
          simp at h ⊢
          exact ⟨by simp [h], by decide⟩
      rw [this]
      cases (op == 0 && off == 0) <;> cases (x == 32) <;> exact exI _ _
  rw [gand]
  simp only [Option.bind_some, openHd_v, openBool_v]
  refine exI_split (fun h => ?_) fun n7 => ?_
  · obtain ⟨hk, h1⟩ := Bool.and_eq_true_iff.1 h
    obtain rfl : k = 7 := by simpa using hk
    match L, hval, hz, h1 with
    | [x, y, z], hval, hz, _ =>
      have hv := hval y (by simp)
      have hy0 : y ≠ 0 := by intro h; exact hz (by simp [h])
      have i2 : indexAddrE (kt.at 157) 22 (nums [x, y, z]) (.v (.int .i64 2)) = some (.cp [.v (.int .i64 z)]) := index_nums (P_kt 157) .i64 [x, y, z] 2 (by simp)
      simp only [idx0 (P_kt 157), idx1 (P_kt 157), i2, Option.bind_some, loadK_cp (P_kt 157), openInt_v, only_tail2, splitB_if]
      have : tyM 7 ty op off [x, y, z] = onlyM ((op == 0 && off == 0) && (x == 1 && (y == z && ty == y))) ty := by
        rw [show tyM 7 ty op off [x, y, z] = if (!(true && (x == 1 && (sameM [y, z] 2 && (y == ty && (op == 0 && off == 0)))))) = true then 0 else ty from rfl, same2 y z hy0]
        refine (only_eq ?_).symm
        by_cases hq : ty = y
        · subst hq
          constructor
          · rintro ⟨h, _⟩; simp at h ⊢; simp [h]
          · intro h; simp at h ⊢; exact ⟨by simp [h], hv⟩
        · have hq' : ¬ y = ty := fun e => hq e.symm
          simp [hq, hq']
      rw [this]
      cases (op == 0 && off == 0) <;> cases (x == 1) <;> cases (y == z) <;> exact exI _ _
  refine exI_split (fun h => ?_) fun n8 => ?_
  · obtain rfl : k = 8 := by simpa using h
    have g0 : (St0.alloc (.map [])).get St0.next = .map [] := rfl
    rw [mapU im157 (es := []) (b := St.next St0) rfl (Nat.zero_le _) rfl]
    simp only [Option.bind_some]
    rw [mapU im157 (es := setK 1 (.v (.int .i64 4)) []) (b := St.next St0) (by simp [St.put]) (Nat.zero_le _) rfl]
    simp only [Option.bind_some]
    rw [mapL im157 z157 (es := setK 2 (.v (.int .i64 5)) (setK 1 (.v (.int .i64 4)) [])) (b := St.next St0) (by simp [St.put])]
    simp only [Option.bind_some]
    generalize St.put (St.put _ _ _) _ _ = S1
    rw [spec109 L (by omega) (fun x => x != 32) 199 [] [] S1 (fun x _ => spec199 x _)]
    simp only [Option.bind_some, openBool_v]
    have hm : (findK op (setK 2 (.v (.int .i64 5)) (setK 1 (.v (.int .i64 4)) []))).getD (.v (.int .i64 0)) = .v (.int .i64 (if op = 1 then 4 else if op = 2 then 5 else 0)) := by
      by_cases h1 : op = 1
      · subst h1; rfl
      · by_cases h2 : op = 2
        · subst h2; rfl
        · simp [setK, findK, h1, h2]
    rw [hm]
    have g1 : ∀ a b : Int, binE (kt.at 157) .gtr 3 (.v (.int .i64 a)) (.v (.int .i64 b)) = some (.v (.bool (decide (a > b)))) := fun a b => by simp [binE, intBin]
    simp only [g1, eql_v, Option.bind_some, splitG_v]
    have all32 : ∀ n : Int, 0 < n → ((sameM L n && L.headD 0 == 32) = true ↔ (L.length : Int) = n ∧ L.any (fun x => x != 32) = false) := by
      intro n hn
      simp only [sameM, Bool.and_eq_true, decide_eq_true_eq, Bool.not_eq_true', List.any_eq_false, Bool.or_eq_true, not_or, beq_iff_eq, bne_iff_ne, ne_eq, Decidable.not_not]
      constructor
      · rintro ⟨⟨h1, h2⟩, h3⟩
        exact ⟨h1, fun x hx => by have := (h2 x hx).2; rw [this, h3]⟩
      · rintro ⟨h1, h2⟩
        have hd : L.headD 0 = 32 := by
          match L, h1, h2 with
          | [], h1, _ => simp at h1; omega
          | x :: r, _, h2 => exact h2 x (by simp)
        exact ⟨⟨h1, fun x hx => ⟨by rw [h2 x hx]; decide, by rw [h2 x hx, hd]⟩⟩, hd⟩
    have target : tyM 8 ty op off L = onlyM (decide ((if op = 1 then (4 : Int) else if op = 2 then 5 else 0) > 0) && (((L.length : Int) == (if op = 1 then (4 : Int) else if op = 2 then 5 else 0)) && (!(L.any fun x => x != 32) && (off == 0 && ty == 32)))) ty := by
      rw [show tyM 8 ty op off L = if (!((op == 1 || op == 2) && (sameM L (if op == 2 then 5 else 4) && (L.headD 0 == 32 && (ty == 32 && off == 0))))) = true then 0 else ty from rfl]
      refine (only_eq ?_).symm
      by_cases h1 : op = 1
      · subst h1
        have := all32 4 (by decide)
        constructor
        · rintro ⟨h, _⟩
          simp only [Bool.and_eq_true, beq_iff_eq, Bool.not_eq_true', if_true] at h
          have h2 := this.2 ⟨h.2.1, h.2.2.1⟩
          have h3 := Bool.and_eq_true_iff.1 h2
          show (sameM L 4 && (L.headD 0 == 32 && (ty == 32 && off == 0))) = true
          rw [h3.1, h3.2]; simp [h.2.2.2.1, h.2.2.2.2]
        · intro h
          have h : (sameM L 4 && (L.headD 0 == 32 && (ty == 32 && off == 0))) = true := h
          simp only [Bool.and_eq_true, beq_iff_eq] at h
          have h2 := this.1 (by simp only [Bool.and_eq_true, beq_iff_eq]; exact ⟨h.1, h.2.1⟩)
          refine ⟨?_, by rw [h.2.2.1]; decide⟩
          simp [h2.1, h2.2, h.2.2.1, h.2.2.2]
      · by_cases h2 : op = 2
        · subst h2
          have := all32 5 (by decide)
          constructor
          · rintro ⟨h, _⟩
            simp only [Bool.and_eq_true, beq_iff_eq, Bool.not_eq_true'] at h
            have h2 := this.2 ⟨h.2.1, h.2.2.1⟩
            have h3 := Bool.and_eq_true_iff.1 h2
            show (sameM L 5 && (L.headD 0 == 32 && (ty == 32 && off == 0))) = true
            rw [h3.1, h3.2]; simp [h.2.2.2.1, h.2.2.2.2]
          · intro h
            have h : (sameM L 5 && (L.headD 0 == 32 && (ty == 32 && off == 0))) = true := h
            simp only [Bool.and_eq_true, beq_iff_eq] at h
            have h2 := this.1 (by simp only [Bool.and_eq_true, beq_iff_eq]; exact ⟨h.1, h.2.1⟩)
            refine ⟨?_, by rw [h.2.2.1]; decide⟩
            simp [h2.1, h2.2, h.2.2.1, h.2.2.2]
        · simp [h1, h2]
    rw [target]
    generalize (if op = 1 then (4 : Int) else if op = 2 then 5 else 0) = m
    simp only [only_tail2, splitB_if]
    cases decide (m > 0) <;> cases ((L.length : Int) == m) <;> cases (L.any fun x => x != 32) <;> cases (off == 0) <;> exact exI _ _
  have : tyM k ty op off L = 0 := by
    have hok : okM k ty op off L = false := by
      have arl : ∀ m : List Int, decide (L.length = m.length) = false → areM L m = false := by
        intro m hm; unfold areM; rw [hm]; rfl
      unfold okM
      by_cases k1 : (k == 1) = true
      · rw [if_pos k1]; rw [k1, Bool.true_and] at n1; rw [n1]; rfl
      rw [if_neg k1]
      by_cases k2 : (k == 2) = true
      · rw [if_pos k2]; rw [k2, Bool.true_and] at n2; rw [n2]; rfl
      rw [if_neg k2]
      by_cases k3 : (k == 3) = true
      · rw [if_pos k3]; rw [k3, Bool.true_and] at n3; rw [n3]; rfl
      rw [if_neg k3]
      by_cases k4 : (k == 4) = true
      · rw [if_pos k4]; rw [k4, Bool.true_and] at n4; rw [n4]; rfl
      rw [if_neg k4]
      by_cases k5 : (k == 5) = true
      · rw [if_pos k5]; rw [k5, Bool.true_or, Bool.true_and] at n5; rw [arl [32] n5]; rfl
      rw [if_neg k5]
      by_cases k6 : (k == 6) = true
      · rw [if_pos k6]; rw [k6, Bool.or_true, Bool.true_and] at n5; rw [arl [32] n5]; rfl
      rw [if_neg k6]
      by_cases k9 : (k == 9) = true
      · rw [if_pos k9]; rw [k9, Bool.true_and] at n9; rw [arl [32] n9]; rfl
      rw [if_neg k9]
      by_cases k7 : (k == 7) = true
      · rw [if_pos k7]; rw [k7, Bool.true_and] at n7; rw [n7]; rfl
      rw [if_neg k7, n8]; rfl
    unfold tyM; rw [hok]; rfl
  rw [this]; exact exI _ _
end Go.Sv
end
