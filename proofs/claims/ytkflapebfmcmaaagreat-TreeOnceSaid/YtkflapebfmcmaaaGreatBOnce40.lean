/- Parts of the proofs of this seat's laws. -/
import Derived.Test.YtkflapebfmcmaaaGreatBOnce39
import Derived.Test.YtkflapebfmcmaaaGreatBOnce27
section
namespace Go.Sv
open Go Go.Proofs Go.Proofs.YtkflapebfmcmaaaGreat
set_option linter.all false
set_option maxRecDepth 100000

theorem zero4_54 : zero? (kt.at 54) 4 = some [.v (.bool false)] := by kernel_rfl
theorem bytes4_54 : bytes? (kt.at 54) 4 = some 1 := by kernel_rfl
theorem ag124 {k : K} (hP : k.P = Tryz.prog) : agg? k 124 = some false := by unfold agg?; rw [hP, Tryz.underlying124]
theorem sz124 {k : K} (hP : k.P = Tryz.prog) : size? k 124 = some 1 := size_of hP (by kernel_rfl)
theorem ag156 {k : K} (hP : k.P = Tryz.prog) : agg? k 156 = some false := by unfold agg?; rw [hP, Tryz.underlying156]
theorem sz156 {k : K} (hP : k.P = Tryz.prog) : size? k 156 = some 1 := size_of hP (by kernel_rfl)

structure InvD (n : Nat) (D : List Int) (S : St) : Prop where
  fl : S.floor = 0
  nx : 3 ≤ S.next
  c0 : S.get 0 = .arr 1 (flags n D)
  c1 : S.get 1 = .cells [.arr 0 n]
  c2 : S.get 2 = .cells [.func 114 [] [.ptr 1 0]]
theorem InvD.box {n : Nat} {D : List Int} {S : St} (h : InvD n D S) (z o : SObj) : InvD n D (boxed S z o) := by
  obtain ⟨f, nx, c0, c1, c2⟩ := h
  exact ⟨f, by rw [boxed_next]; omega, by rw [boxed_get _ _ _ _ (by omega)]; exact c0, by rw [boxed_get _ _ _ _ (by omega)]; exact c1, by rw [boxed_get _ _ _ _ (by omega)]; exact c2⟩

theorem spec114 {n : Nat} {D : List Int} {S : St} (c0 : S.get 0 = .arr 1 (flags n D)) (c1 : S.get 1 = .cells [.arr 0 n]) (x : Int) (h0 : 0 ≤ x) (h1 : x < n) : run kt (.func 114 [] [.ptr 1 0]) [.v (.int .i64 x)] S = some (.v (.bool (D.contains x)), S) := by
  refine go_pure ks_kt (f := 114) (fst := []) (cap := [.ptr 1 0]) (args := [.v (.int .i64 x)]) (S := S) h114 0 rfl (fn_kt 114 fn114) rfl (z := (.v (.bool (D.contains x)), quiet S)) ?_
  simp only [List.nil_append, List.cons_append, List.map_cons, List.map_nil, weak_ptr]
  refine (tell114 0 x (.ptr 1 0) (quiet S)).trans ?_
  have g1 : (quiet S).get 1 = .cells [.arr 0 n] := c1
  have g0 : (quiet S).get 0 = .arr 1 (flags n D) := c0
  rw [ld1 (ag124 (P_kt 114)) (sz124 (P_kt 114)) g1]
  simp only [List.drop_zero, List.head?_cons, Option.bind_some]
  rw [flag_addr (P_kt 114) 0 _ _ h0 h1]
  simp only [Option.bind_some]
  rw [flag_load (P_kt 114) g0 _ h0 h1]
  simp only [Option.bind_some, openBool_v]

theorem spec117 {n : Nat} {D : List Int} {S : St} (c0 : S.get 0 = .arr 1 (flags n D)) (c1 : S.get 1 = .cells [.arr 0 n]) (c2 : S.get 2 = .cells [.func 114 [] [.ptr 1 0]]) (x : Int) (h0 : 0 ≤ x) (h1 : x < n) : run kt (.func 117 [] [.ptr 2 0]) [.v (.int .i64 x)] S = some (.v (.bool (!D.contains x)), S) := by
  refine go_pure ks_kt (f := 117) (fst := []) (cap := [.ptr 2 0]) (args := [.v (.int .i64 x)]) (S := S) h117 0 rfl (fn_kt 117 fn117) rfl (z := (.v (.bool (!D.contains x)), quiet S)) ?_
  simp only [List.nil_append, List.cons_append, List.map_cons, List.map_nil, weak_ptr]
  refine (tell117 0 x (.ptr 2 0) (quiet S)).trans ?_
  have g2 : (quiet S).get 2 = .cells [.func 114 [] [.ptr 1 0]] := c2
  rw [ld1 (ag156 (P_kt 117)) (sz156 (P_kt 117)) g2]
  simp only [List.drop_zero, List.head?_cons, Option.bind_some]
  rw [spec114 (S := quiet S) c0 c1 x h0 h1]
  simp only [Option.bind_some, openBool_v]

set_option maxHeartbeats 4000000 in
theorem spec54 (b : Block) (hB : bndB b) (hT : b.tmps.length ≤ 1000000000) (hL : b.l.length ≤ 1000000000) (hS : b.spans.length ≤ 1000000000) (hN : b.next.ok) (S : St) : run kt (.func 54 [] []) [.agg b.t31.enc] S = some (.v (.int .i64 (errB b)), S) := by
  refine closed_int h54 1000000 rfl (fn_kt 54 fn54) rfl ?_
  simp only [List.map_cons, List.map_nil, block_ws]
  rw [tell54]
  have t1 : b.t31.tmps = nums b.tmps := rfl
  have t2 : b.t31.l = stmts b.l := rfl
  have t3 : b.t31.spans = spanl b.spans := rfl
  simp only [t1, t2, t3, len_nums (P_kt 54), len_stmts (P_kt 54), len_spans (P_kt 54), Option.bind_some, openInt_v]
  rw [spec109 b.tmps hT (fun x => bytesM x == 0) 110 [] [] St0 (fun x _ => spec110 x _), Option.bind_some, openBool_v]
  rw [spec112 b.spans hS badSpan 113 [] [] St0 (fun x _ => spec113 x _), Option.bind_some, openBool_v]
  refine exI_bindq (c := !decide (limB b)) ?_ ?_
  · simp only [splitB_dec]
    by_cases c1 : b.tmps.length ≤ 4000
    · rw [if_neg (by omega)]
      by_cases c2 : b.l.length ≤ 2000
      · rw [if_neg (by omega)]
        by_cases c3 : b.spans.length ≤ 100
        · rw [if_neg (by omega)]
          by_cases c4 : (b.tmps.any fun x => bytesM x == 0) = true
          · have : ¬ limB b := by
              intro hl
              obtain ⟨t, h1, h2⟩ := List.any_eq_true.1 c4
              exact hl.2.2.2.1 t h1 (by simpa using h2)
            rw [c4, splitB_t, decide_eq_false this]; rfl
          · have c4' : (b.tmps.any fun x => bytesM x == 0) = false := by simpa using c4
            rw [c4', splitB_f]
            cases c5 : b.spans.any badSpan with
            | true =>
              have : ¬ limB b := by
                intro hl
                obtain ⟨t, h1, h2⟩ := List.any_eq_true.1 c5
                rw [hl.2.2.2.2 t h1] at h2; cases h2
              rw [decide_eq_false this]; rfl
            | false =>
              have : limB b := ⟨c1, c2, c3, fun t h h0 => c4 (List.any_eq_true.2 ⟨t, h, by simpa using h0⟩), fun p h => by
                cases hb : badSpan p with
                | false => rfl
                | true => rw [List.any_eq_true.2 ⟨p, h, hb⟩] at c5; cases c5⟩
              rw [decide_eq_true this]; rfl
        · have : ¬ limB b := fun h => c3 h.2.2.1
          rw [if_pos (by omega), decide_eq_false this]; rfl
      · have : ¬ limB b := fun h => c2 h.2.1
        rw [if_pos (by omega), decide_eq_false this]; rfl
    · have : ¬ limB b := fun h => c1 h.1
      rw [if_pos (by omega), decide_eq_false this]; rfl
  simp only [openHd_v, openBool_v]
  refine exI_split (fun h => ?_) fun hlim => ?_
  · have : errB b = 7 := by
      unfold errB okB
      have hd : decide (limB b) = false := by simpa using h
      rw [hd]; rfl
    rw [this]; exact exI _ _
  have hlimB : limB b := by
    by_cases hh : limB b
    · exact hh
    · rw [decide_eq_false hh] at hlim; cases hlim
  have hlim := hlimB
  obtain ⟨l1, l2, l3, l4, l5⟩ := hlim
  rw [ms_z zero4_54 (P_kt 54) bytes4_54 l1]
  rw [Option.bind_some, next0]
  -- boxes
  have n1 : (St0.alloc (.arr 1 (flags b.tmps.length []))).next = 1 := rfl
  rw [n1]
  rw [st1 (sz124 (P_kt 54)) (b := 1) (cs := [.v (.slice none 0 0)]) (by simp [St.alloc, St0]) (Nat.zero_le _) (by simp) rfl]
  have hS1 : ∃ S1, ((St0.alloc (.arr 1 (flags b.tmps.length []))).alloc (.cells [.v (.slice none 0 0)])).put 1 (.cells (splice [.v (.slice none 0 0)] 0 [.arr 0 b.tmps.length])) = S1 ∧ S1.floor = 0 ∧ S1.next = 2 ∧ S1.get 0 = .arr 1 (flags b.tmps.length []) ∧ S1.get 1 = .cells [.arr 0 b.tmps.length] := ⟨_, rfl, rfl, rfl, by simp [St.put, St.alloc, St0], by simp [St.put, splice]⟩
  obtain ⟨S1, e1, f1, nx1, g0, g1⟩ := hS1
  rw [e1]
  clear e1 n1
  rw [nx1]
  rw [st1 (sz156 (P_kt 54)) (b := 2) (cs := [.v .nilFunc]) (by simp [St.alloc, nx1]) (by show S1.floor ≤ 2; omega) (by simp) rfl]
  have hS2 : ∃ S2, (S1.alloc (.cells [.v .nilFunc])).put 2 (.cells (splice [.v .nilFunc] 0 [.func 114 [] [.ptr 1 0]])) = S2 ∧ InvD b.tmps.length [] S2 := ⟨_, rfl, f1, by simp [St.put, St.alloc, nx1], by rw [get_put _ _ _ _ (by decide), get_new _ _ _ (by omega)]; exact g0, by rw [get_put _ _ _ _ (by decide), get_new _ _ _ (by omega)]; exact g1, by simp [St.put, splice]⟩
  obtain ⟨S2, e2, inv0⟩ := hS2
  rw [e2]
  clear e2 g0 g1 nx1 f1
  simp only [splitB_dec]
  generalize hF : (fun vs10 S11 => _ : List SV → St → Option (Ex × List SV × St)) = F
  have main := iter_foldO 0 (F := F) b.l (stepC b.tmps) (fun i => [.v (.int .i64 0), .v (.int .i64 (i : Int))]) (InvD b.tmps.length) (fun o => ∃ i : Int, o = [.v (.int .i64 7), .v (.int .i64 i)])
    (fun i h D S hI => by
      have hb := hB b.l[i] (List.getElem_mem h)
      generalize hsi : b.l[i] = s at hb
      have hz := hI.box (.cells z57) (.cells s.t57.enc)
      have hld : loadE (kt.at 54) 57 (.ptr S.next 0) (boxed S (.cells z57) (.cells s.t57.enc)) = some (.agg s.t57.enc) := load_box (agg_st (P_kt 54) Tryz.underlying57) (sz57 (P_kt 54)) rfl
      have hst : ∀ {Z : Type} (K : St → Option Z), storeK (kt.at 54) 57 (.ptr S.next 0) (.agg s.t57.enc) (S.alloc (.cells z57)) K = K (boxed S (.cells z57) (.cells s.t57.enc)) := fun K => store_box (sz57 (P_kt 54)) (by decide) (by rw [hI.fl]; omega) rfl rfl K
      have hv := spec115 b.tmps s hb.2.1 hb.2.2 (by omega) (by omega)
      have hd := spec118 s
      suffices ∃ R, F [.v (.int .i64 0), .v (.int .i64 (i : Int))] S = R ∧ ∀ x, stepC b.tmps D s = x → (x = none → ∃ o S', (∃ i : Int, o = [.v (.int .i64 7), .v (.int .i64 i)]) ∧ R = some (.ret, o, S')) ∧ (∀ D', x = some D' → ∃ S', R = some (.normal, [.v (.int .i64 0), .v (.int .i64 ((i + 1 : Nat) : Int))], S') ∧ InvD b.tmps.length D' S') by
        obtain ⟨R, hR, hx⟩ := this
        have hx := hx _ rfl
        rw [hR]
        cases hc : stepC b.tmps D s with
        | none => exact hx.1 hc
        | some D' => exact hx.2 D' hc
      refine ⟨_, rfl, fun x hx => ?_⟩
      rw [← hF]
      simp only [openHd_v, openInt_v]
      rw [if_pos (by omega), index_stmts (P_kt 54) .i64 b.l i h, hsi]
      simp only [Option.bind_some, openCp57']
      rw [show (St.alloc S (.cells [(.v (.int .i64 (0 : Int))), (.v (.int .i64 (0 : Int))), (.v (.int .i64 (0 : Int))), (.v (.int .i64 (0 : Int))), (.v (.int .i64 (0 : Int))), (.v (.int .u32 (0 : Int))), (.v (.int .u32 (0 : Int))), (.v (.int .i64 (0 : Int))), (.v (.int .i64 (0 : Int))), (.v (.int .i64 (0 : Int))), (.v (.int .i64 (0 : Int))), (.v (.slice none 0 0)), (.v (.slice none 0 0))])) = S.alloc (.cells z57) from rfl]
      rw [hst]
      simp only [hld, Option.bind_some, openAgg57', hv, openBool_v]
      generalize boxed S (.cells z57) (.cells s.t57.enc) = S1 at hz hld
      subst hx
      unfold stepC
      cases hvb : validM b.tmps s with
      | false =>
        simp only [Bool.not_false, splitB_t, Option.bind_some, openHd_v, openBool_v]
        rw [if_neg (by rintro ⟨h, _⟩; cases h)]
        exact ⟨fun _ => ⟨_, _, ⟨_, rfl⟩, rfl⟩, fun D' h => by cases h⟩
      | true =>
        have hin : ∀ a ∈ usesAt s, a.tmp < b.tmps.length := fun a ha => atomTy_in (valid_uses hvb a ha)
        obtain ⟨U, hu, hum, hul⟩ := spec116 s (by omega) (by omega) (fun a ha => by have := hin a ha; omega) S1
        have hur : ∀ x ∈ U, 0 ≤ x ∧ x < b.tmps.length := by
          intro x hx
          obtain ⟨h0, a, ha, rfl⟩ := (hum x).1 hx
          exact ⟨h0, hin a ha⟩
        have h109 : run kt (.func 109 [] []) [nums U, .func 117 [] [.ptr 2 0]] S1 = some (.v (.bool (U.any fun x => !D.contains x)), S1) :=
          spec109 U (by omega) (fun x => !D.contains x) 117 [] [.ptr 2 0] S1 (fun x hx => spec117 (S := quiet (quiet S1)) hz.c0 hz.c1 hz.c2 x (hur x hx).1 (hur x hx).2)
        simp only [Bool.not_true, splitB_f, hu, h109, Option.bind_some, openBool_v, openHd_v]
        have hU : ((U.any fun x => !D.contains x) = true) ↔ ¬ (∀ a ∈ usesAt s, 0 ≤ a.tmp → a.tmp ∈ D) := by
          rw [List.any_eq_true]
          constructor
          · rintro ⟨x, hx, hc⟩ hall
            obtain ⟨h0, a, ha, rfl⟩ := (hum x).1 hx
            have := hall a ha h0
            simp [this] at hc
          · intro hn
            refine Classical.byContradiction fun hh => hn fun a ha h0 => ?_
            refine Classical.byContradiction fun hc => hh ⟨a.tmp, (hum _).2 ⟨h0, a, ha, rfl⟩, by simp [hc]⟩
        by_cases hu1 : ∀ a ∈ usesAt s, 0 ≤ a.tmp → a.tmp ∈ D
        · have hu2 : (U.any fun x => !D.contains x) = false := by
            cases h : (U.any fun x => !D.contains x) with
            | false => rfl
            | true => exact (hU.1 h hu1).elim
          rw [hu2, splitB_f]
          simp only [hd, Option.bind_some, openInt_v]
          have hw : IntKind.wrap .i64 ((i : Int) + 1) = ((i + 1 : Nat) : Int) := wrap_in (by omega) (by omega)
          rcases (valid_def hvb).2 with hdm | hdm
          · have hdm' : ¬ defM s ≥ 0 := by omega
            simp only [hdm', if_false, hw]
            rw [if_pos ⟨by trivial, hu1, fun h => False.elim h⟩]
            refine ⟨fun h => (by cases h), fun D' h => ?_⟩
            injection h with h; subst h
            exact ⟨_, rfl, hz⟩
          · have hdm' : defM s ≥ 0 := hdm.1
            simp only [hdm', if_true]
            rw [ld1 (ag156 (P_kt 54)) (sz156 (P_kt 54)) hz.c2]
            simp only [List.drop_zero, List.head?_cons, Option.bind_some]
            rw [spec114 hz.c0 hz.c1 (defM s) hdm.1 hdm.2]
            simp only [Option.bind_some, openBool_v]
            by_cases hd1 : defM s ∈ D
            · have : D.contains (defM s) = true := by simpa using hd1
              rw [this, splitB_t, if_neg (by rintro ⟨_, _, h⟩; exact h (by trivial) hd1)]
              exact ⟨fun _ => ⟨_, _, ⟨_, rfl⟩, rfl⟩, fun D' h => by cases h⟩
            · have : D.contains (defM s) = false := by simpa using hd1
              rw [this, splitB_f, if_pos ⟨by trivial, hu1, fun _ => hd1⟩]
              rw [ld1 (ag124 (P_kt 54)) (sz124 (P_kt 54)) hz.c1]
              simp only [List.drop_zero, List.head?_cons, Option.bind_some]
              rw [flag_addr (P_kt 54) 0 _ _ hdm.1 hdm.2]
              simp only [Option.bind_some]
              rw [flag_store (P_kt 54) hz.c0 (by rw [hz.fl]; decide) _ hdm.1 hdm.2, hw]
              refine ⟨fun h => (by cases h), fun D' h => ?_⟩
              injection h with h; subst h
              exact ⟨_, rfl, hz.fl, hz.nx, put_get _ _ _, by rw [get_put _ _ _ _ (by decide)]; exact hz.c1, by rw [get_put _ _ _ _ (by decide)]; exact hz.c2⟩
        · rw [hU.2 hu1, splitB_t, if_neg (by rintro ⟨_, h, _⟩; exact hu1 h)]
          exact ⟨fun _ => ⟨_, _, ⟨_, rfl⟩, rfl⟩, fun D' h => by cases h⟩)
    (fun D S hI => by
      rw [← hF]
      simp only [openHd_v, openInt_v]
      rw [if_neg (by omega)]) b.l 0 rfl (by omega) [] S2 1000000 inv0 (by omega)
  rw [← chkL_foldlM] at main
  cases hc : chkL b.tmps [] b.l with
  | none =>
    rw [hc] at main
    obtain ⟨o, S', ⟨i, rfl⟩, hi⟩ := main
    have hi : iter F 1000000 [.v (.int .i64 0), .v (.int .i64 0)] _ = _ := hi
    rw [hi]
    have : errB b = 7 := by unfold errB okB; simp [hc]
    rw [this]; exact exI _ _
  | some D =>
    rw [hc] at main
    obtain ⟨S', hi, hI⟩ := main
    have hi : iter F 1000000 [.v (.int .i64 0), .v (.int .i64 0)] _ = _ := hi
    rw [hi]
    simp only [Option.bind_some, openHd_v, openInt_v, exits_exit, if_true]
    have he : errB b = if endB b D = true then 0 else 7 := by
      unfold errB okB
      rw [hc, decide_eq_true hlimB, Bool.true_and]
    have h81 : run kt (.func 119 [] []) [nums b.tmps, .agg [(.v (.int .i64 b.t31.next_Tmp)), (.v (.int .i64 b.t31.next_Ty)), (.v (.int .u32 b.t31.next_C0)), (.v (.int .u32 b.t31.next_C1)), (.v (.int .u32 b.t31.next_C2)), (.v (.int .u32 b.t31.next_C3))]] S' = _ := spec119 b.tmps b.next hN S'
    rw [h81, he]
    simp only [Option.bind_some, openInt_v]
    unfold endB
    by_cases h32 : atomTy b.tmps b.next = 32
    · have e1 : (atomTy b.tmps b.next != 32) = false := by simp [h32]
      have e2 : (atomTy b.tmps b.next == 32) = true := by simp [h32]
      rw [e1, e2, splitB_f]
      have hin : b.next.tmp < b.tmps.length := atomTy_in (by rw [h32]; decide)
      have jmp : ∀ S, ExI (if b.t31.jump < (1 : Int) then some (SV.v (.int .i64 7), S) else if b.t31.jump > (9 : Int) then some (.v (.int .i64 7), S) else some (.v (.int .i64 0), S)) (if (decide (1 ≤ b.jump) && decide (b.jump ≤ 9)) = true then 0 else 7) := by
        intro S
        show ExI (if b.jump < (1 : Int) then some (SV.v (.int .i64 7), S) else if b.jump > (9 : Int) then some (.v (.int .i64 7), S) else some (.v (.int .i64 0), S)) _
        by_cases h1 : b.jump < 1
        · have : ¬ 1 ≤ b.jump := by omega
          simp [h1, this]; exact exI _ _
        · have h1' : 1 ≤ b.jump := by omega
          by_cases h2 : b.jump > 9
          · have : ¬ b.jump ≤ 9 := by omega
            simp [h1, h2, this]; exact exI _ _
          · have : b.jump ≤ 9 := by omega
            simp [h1, h1', h2, this]; exact exI _ _
      by_cases h0 : b.next.tmp ≥ 0
      · have e4 : decide (b.next.tmp < 0) = false := decide_eq_false (by omega)
        rw [if_pos (show b.t31.next_Tmp ≥ 0 from h0), e4, ld1 (ag156 (P_kt 54)) (sz156 (P_kt 54)) hI.c2]
        simp only [List.drop_zero, List.head?_cons, Option.bind_some]
        rw [show (SV.v (.int .i64 b.t31.next_Tmp)) = .v (.int .i64 b.next.tmp) from rfl, spec114 hI.c0 hI.c1 b.next.tmp h0 hin]
        simp only [Option.bind_some, openBool_v, Bool.true_and, Bool.false_or]
        cases D.contains b.next.tmp with
        | false => exact exI _ _
        | true => exact jmp _
      · have e4 : decide (b.next.tmp < 0) = true := decide_eq_true (by omega)
        rw [if_neg (show ¬ b.t31.next_Tmp ≥ 0 from h0), e4]
        simp only [Bool.true_and, Bool.true_or]
        exact jmp _
    · have e1 : (atomTy b.tmps b.next != 32) = true := by simp [h32]
      have e2 : (atomTy b.tmps b.next == 32) = false := by simp [h32]
      rw [e1, e2, splitB_t]; exact exI _ _
end Go.Sv
end
section
namespace Go.Sv
set_option linter.all false
/-! Blocks of trees. -/
structure TStmt where
  kind : Int
  tmp : Int
  off : Int
  n : Int
  jump : Int
  addr : Int
  to_ : Int
  e : Tree
  l : List Tree
structure TBlock where
  tmps : List Int
  l : List TStmt
  next : Tree
  jump : Int
  spans : List Span

def zA : Atom := ⟨0, 0, 0, 0, 0, 0⟩
def leafT (a : Atom) : Tree := .mk a 0 0 0 0 []
def zT : Tree := leafT zA
def nodeT (e : Expr) (l : List Tree) : Tree := .mk zA e.kind e.ty e.op e.off l
def bareT (s : Stmt) : TStmt := ⟨s.kind, s.tmp, s.off, s.n, s.jump, s.addr, s.to_, zT, []⟩
def setT (p : Int × Tree) : TStmt := ⟨2, p.1, 0, 0, 0, 0, 0, p.2, []⟩
abbrev Wt := List (Int × Tree)
def nbAtom (i : Int) : Atom := ⟨i, 0, 0, 0, 0, 0⟩
def nbs (n : Nat) : List Atom := (List.range n).map fun (i : Nat) => nbAtom (i : Int)

/-! The reference's Build. -/
def hitR (n : Int) (p : Int × Tree) : Bool := decide (n ≥ 0) && p.1 == n
def pickR (n : Int) (t0 : Tree) (w : Wt) : Tree × Wt := (w.foldl (fun t p => if hitR n p = true then p.2 else t) t0, w.filter fun p => !hitR n p)
def takenR : List Atom → Wt → List Tree × Wt
  | [], w => ([], w)
  | a :: r, w => ((pickR a.tmp (leafT a) w).1 :: (takenR r (pickR a.tmp (leafT a) w).2).1, (takenR r (pickR a.tmp (leafT a) w).2).2)
def stmtR (s : Stmt) (w : Wt) : TStmt × Wt :=
  if s.kind = 2 then ({ bareT s with e := nodeT s.e (takenR s.e.l w).1 }, (takenR s.e.l w).2)
  else ({ bareT s with l := (takenR s.l w).1 }, (takenR s.l w).2)
mutual
def hasM (k : Int) : Tree → Bool
  | .mk _ kd _ _ _ l => if kd = 0 then false else if kd = k then true else hasL k l
def hasL (k : Int) : List Tree → Bool
  | [] => false
  | t :: r => hasM k t || hasL k r
end
mutual
def getsM (by_ : Int → Int) (w : Int → Int) (off n : Int) : Tree → Bool
  | .mk _ kd ty _ o l => if kd = 0 then false else if kd = 2 ∧ o < w (off + n) ∧ off < w (o + by_ ty) then true else getsL by_ w off n l
def getsL (by_ : Int → Int) (w : Int → Int) (off n : Int) : List Tree → Bool
  | [] => false
  | t :: r => getsM by_ w off n t || getsL by_ w off n r
end
mutual
/-- aty: the type of an atom; ety: of an expression whose elements have these types. -/
def typR (aty : Atom → Int) (ety : Int → Int → Int → Int → List Int → Int) : Tree → Bool → Int
  | .mk a k ty op off l, whole =>
    if k = 0 then (if ty ≠ 0 ∨ op ≠ 0 ∨ off ≠ 0 ∨ l ≠ [] then 0 else aty a)
    else if a ≠ zA then 0 else if k = 1 ∧ whole = false then 0
    else match typRs aty ety l with
      | none => 0
      | some ts => ety k ty op off ts
def typRs (aty : Atom → Int) (ety : Int → Int → Int → Int → List Int → Int) : List Tree → Option (List Int)
  | [] => some []
  | t :: r => if typR aty ety t false = 0 then none else (typRs aty ety r).map (typR aty ety t false :: ·)
end

/-! The program's. -/
def takeP (a : Atom) : Wt → Tree × Wt
  | [] => (leafT a, [])
  | p :: r => if p.1 = a.tmp then (p.2, r) else ((takeP a r).1, p :: (takeP a r).2)
def takesP : List Atom → Wt → List Tree × Wt
  | [], w => ([], w)
  | a :: r, w => ((takeP a w).1 :: (takesP r (takeP a w).2).1, (takesP r (takeP a w).2).2)
def madeP (s : Stmt) (w : Wt) : TStmt × Wt :=
  if s.kind = 2 then ({ bareT s with e := nodeT s.e (takesP s.e.l w).1, l := (takesP s.l (takesP s.e.l w).2).1 }, (takesP s.l (takesP s.e.l w).2).2)
  else ({ bareT s with l := (takesP s.l w).1 }, (takesP s.l w).2)
mutual
def anyN (p : Tree → Bool) : Tree → Bool
  | .mk a k ty op off l => anyNs p l || p (.mk a k ty op off l)
def anyNs (p : Tree → Bool) : List Tree → Bool
  | [] => false
  | t :: r => anyN p t || anyNs p r
end
mutual
def typP (aty : Atom → Int) (ety : Int → Int → Int → Int → List Int → Int) : Tree → Int
  | .mk a k ty op off l => if k = 0 then aty a else ety k ty op off (typPs aty ety l)
def typPs (aty : Atom → Int) (ety : Int → Int → Int → Int → List Int → Int) : List Tree → List Int
  | [] => []
  | t :: r => typP aty ety t :: typPs aty ety r
end

/-! Trees that Build makes. -/
mutual
inductive WT : Tree → Prop
  | leaf (a : Atom) : WT (leafT a)
  | node (k ty op off : Int) (l : List Tree) (h0 : k ≠ 0) (h1 : k ≠ 1) (hl : WTs l) : WT (.mk zA k ty op off l)
inductive WTs : List Tree → Prop
  | nil : WTs []
  | cons (t : Tree) (r : List Tree) (h : WT t) (hr : WTs r) : WTs (t :: r)
end
theorem WTs.mem : ∀ {l : List Tree}, WTs l → ∀ t ∈ l, WT t
  | _, .cons t r h hr, x, hx => by
    rcases List.mem_cons.1 hx with rfl | hx
    · exact h
    · exact hr.mem x hx
theorem WTs.of : ∀ {l : List Tree}, (∀ t ∈ l, WT t) → WTs l
  | [], _ => .nil
  | t :: r, h => .cons t r (h t (by simp)) (WTs.of fun x hx => h x (by simp [hx]))

theorem anyNs_any (p : Tree → Bool) (l : List Tree) : anyNs p l = l.any (anyN p) := by
  induction l with
  | nil => simp [anyNs]
  | cons t r ih => simp [anyNs, ih]
theorem hasL_any (k : Int) (l : List Tree) : hasL k l = l.any (hasM k) := by
  induction l with
  | nil => simp [hasL]
  | cons t r ih => simp [hasL, ih]
theorem getsL_any (by_ w : Int → Int) (off n : Int) (l : List Tree) : getsL by_ w off n l = l.any (getsM by_ w off n) := by
  induction l with
  | nil => simp [getsL]
  | cons t r ih => simp [getsL, ih]

theorem any_congr {α : Type} {l : List α} {f g : α → Bool} (h : ∀ x ∈ l, f x = g x) : l.any f = l.any g := by
  induction l with
  | nil => rfl
  | cons x r ih => rw [List.any_cons, List.any_cons, h x (by simp), ih fun y hy => h y (by simp [hy])]

theorem has_any (k : Int) (hk : k ≠ 0) (t : Tree) (h : WT t) : hasM k t = anyN (fun y => y.kind == k) t := by
  induction t using Tree.ind with
  | h a kd ty op off l ih =>
    cases h with
    | leaf a => simp [hasM, anyN, anyNs, Tree.kind, Ne.symm hk]
    | node k' ty op off l h0 h1 hl =>
      simp only [hasM, anyN, if_neg h0, anyNs_any, hasL_any]
      rw [any_congr fun x hx => ih x hx (hl.mem x hx)]
      have e : (Tree.mk zA kd ty op off l).kind = kd := rfl
      rw [e]
      by_cases h : kd = k <;> simp [h]

/-- What a statement disturbs: the program's table. -/
def distP (by_ w : Int → Int) (loads : Bool) (sk soff n : Int) (y : Tree) : Bool :=
  if y.kind = 5 then sk != 2 || loads else if y.kind = 6 then sk == 6 else if y.kind = 9 then sk == 7
  else if y.kind = 2 then sk == 3 && (decide (y.off < w (soff + n)) && decide (soff < w (y.off + by_ y.ty))) else false
/-- The reference's. -/
def distR (by_ w : Int → Int) (loads : Bool) (sk soff n : Int) (t : Tree) : Bool :=
  if (hasM 5 t && (sk != 2 || loads)) = true then true else
  if sk = 3 then getsM by_ w soff n t else if sk = 6 then hasM 6 t else if sk = 7 then hasM 9 t else false

theorem anyN_or (p q : Tree → Bool) (t : Tree) : anyN (fun y => p y || q y) t = (anyN p t || anyN q t) := by
  induction t using Tree.ind with
  | h a k ty op off l ih =>
    simp only [anyN, anyNs_any]
    have : l.any (anyN fun y => p y || q y) = (l.any (anyN p) || l.any (anyN q)) := by
      rw [any_congr fun x hx => ih x hx]
      induction l with
      | nil => rfl
      | cons x r ihr => simp only [List.any_cons]; rw [ihr fun t ht => ih t (by simp [ht])]; cases anyN p x <;> cases anyN q x <;> cases r.any (anyN p) <;> cases r.any (anyN q) <;> rfl
    rw [this]
    cases l.any (anyN p) <;> cases l.any (anyN q) <;> cases p (.mk a k ty op off l) <;> cases q (.mk a k ty op off l) <;> rfl
theorem anyN_and (c : Bool) (p : Tree → Bool) (t : Tree) : anyN (fun y => p y && c) t = (anyN p t && c) := by
  induction t using Tree.ind with
  | h a k ty op off l ih =>
    simp only [anyN, anyNs_any]
    have : l.any (anyN fun y => p y && c) = (l.any (anyN p) && c) := by
      rw [any_congr fun x hx => ih x hx]
      cases c <;> simp
    rw [this]
    cases c <;> simp

theorem gets_any (by_ w : Int → Int) (off n : Int) (t : Tree) (h : WT t) : getsM by_ w off n t = anyN (fun y => y.kind == 2 && (decide (y.off < w (off + n)) && decide (off < w (y.off + by_ y.ty)))) t := by
  induction t using Tree.ind with
  | h a kd ty op o l ih =>
    cases h with
    | leaf a => simp [getsM, anyN, anyNs, Tree.kind]
    | node k' ty op off l h0 h1 hl =>
      simp only [getsM, anyN, if_neg h0, anyNs_any, getsL_any]
      have e1 : (Tree.mk zA kd ty op o l).kind = kd := rfl
      have e2 : (Tree.mk zA kd ty op o l).off = o := rfl
      have e3 : (Tree.mk zA kd ty op o l).ty = ty := rfl
      rw [e1, e2, e3]
      rw [any_congr fun x hx => ih x hx (hl.mem x hx)]
      by_cases h : kd = 2 ∧ o < w (off + n) ∧ off < w (o + by_ ty)
      · rw [if_pos h]; simp [h.1, h.2.1, h.2.2]
      · rw [if_neg h]
        have : (kd == 2 && (decide (o < w (off + n)) && decide (off < w (o + by_ ty)))) = false := by
          by_cases h1 : kd = 2
          · by_cases h2 : o < w (off + n)
            · have h3 : ¬ off < w (o + by_ ty) := fun h3 => h ⟨h1, h2, h3⟩
              simp [h3]
            · simp [h2]
          · simp [h1]
        rw [this, Bool.or_false]

theorem dist_eq (by_ w : Int → Int) (loads : Bool) (sk soff n : Int) (t : Tree) (h : WT t) : anyN (distP by_ w loads sk soff n) t = distR by_ w loads sk soff n t := by
  have e : distP by_ w loads sk soff n = fun y => ((y.kind == 5) && (sk != 2 || loads)) || (((y.kind == 6) && (sk == 6)) || (((y.kind == 9) && (sk == 7)) || ((y.kind == 2 && (decide (y.off < w (soff + n)) && decide (soff < w (y.off + by_ y.ty)))) && (sk == 3)))) := by
    funext y
    unfold distP
    by_cases h5 : y.kind = 5
    · simp [h5]
    by_cases h6 : y.kind = 6
    · simp [h6]
    by_cases h9 : y.kind = 9
    · simp [h9]
    by_cases h2 : y.kind = 2
    · simp [h2, Bool.and_comm]
    · simp [h5, h6, h9, h2]
  rw [e]
  simp only [anyN_or, anyN_and]
  rw [← has_any 5 (by decide) t h, ← has_any 6 (by decide) t h, ← has_any 9 (by decide) t h, ← gets_any by_ w soff n t h]
  unfold distR
  by_cases k3 : sk = 3
  · subst k3; cases hasM 5 t <;> cases getsM by_ w soff n t <;> simp
  by_cases k6 : sk = 6
  · subst k6; cases hasM 5 t <;> cases hasM 6 t <;> simp
  by_cases k7 : sk = 7
  · subst k7; cases hasM 5 t <;> cases hasM 9 t <;> simp
  · have b6 : (sk == 6) = false := by simpa using k6
    have b7 : (sk == 7) = false := by simpa using k7
    have b3 : (sk == 3) = false := by simpa using k3
    rw [if_neg k3, if_neg k6, if_neg k7, b6, b7, b3]
    cases (hasM 5 t && (sk != 2 || loads)) <;> simp

/-! Types. -/
theorem typ_eq (aty : Atom → Int) (ety : Int → Int → Int → Int → List Int → Int) (h0 : ∀ k ty op off l, 0 ∈ l → k ≠ 0 → ety k ty op off l = 0) (t : Tree) (h : WT t) (w : Bool) : typR aty ety t w = typP aty ety t := by
  induction t using Tree.ind generalizing w with
  | h a kd ty op off l ih =>
    cases h with
    | leaf a => simp [typR, typP]
    | node k' ty op off l hk0 hk1 hl =>
      have hs : (typRs aty ety l = none ∧ 0 ∈ typPs aty ety l) ∨ typRs aty ety l = some (typPs aty ety l) := by
        clear hk0 hk1
        induction l with
        | nil => exact .inr rfl
        | cons t r ihr =>
          have e := ih t (by simp) (hl.mem t (by simp)) false
          simp only [typRs, typPs, e]
          by_cases hz : typP aty ety t = 0
          · rw [if_pos hz]; exact .inl ⟨rfl, by simp [hz]⟩
          · rw [if_neg hz]
            cases hl with
            | cons _ _ _ hr =>
              rcases ihr (fun t ht => ih t (by simp [ht])) hr with ⟨h1, h2⟩ | h1
              · exact .inl ⟨by rw [h1]; rfl, by simp [h2]⟩
              · exact .inr (by rw [h1]; rfl)
      simp only [typR, typP, if_neg hk0, hk1, false_and, if_false, ne_eq, not_true]
      rcases hs with ⟨h1, h2⟩ | h1
      · rw [h1, h0 _ _ _ _ _ h2 hk0]
      · rw [h1]

/-! What waits. -/
structure WW (w : Wt) : Prop where
  nodup : (w.map (·.1)).Nodup
  nn : ∀ p ∈ w, 0 ≤ p.1
  wt : ∀ p ∈ w, WT p.2 ∧ p.2.kind ≠ 0

theorem take_none {a : Atom} : ∀ {w : Wt}, (∀ p ∈ w, p.1 ≠ a.tmp) → takeP a w = (leafT a, w)
  | [], _ => rfl
  | p :: r, h => by
    rw [takeP, if_neg (h p (by simp)), take_none fun q hq => h q (by simp [hq])]

theorem take_eq (a : Atom) : ∀ (w : Wt), (w.map (·.1)).Nodup → (∀ p ∈ w, 0 ≤ p.1) → takeP a w = pickR a.tmp (leafT a) w
  | [], _, _ => rfl
  | p :: r, hn, h0 => by
    have hn' : p.1 ∉ r.map (·.1) ∧ (r.map (·.1)).Nodup := by simpa using hn
    have h0' : ∀ q ∈ r, 0 ≤ q.1 := fun q hq => h0 q (by simp [hq])
    by_cases e : p.1 = a.tmp
    · have hp : hitR a.tmp p = true := by simp [hitR, e]; rw [← e]; exact h0 p (by simp)
      have hr : ∀ q ∈ r, hitR a.tmp q = false := by
        intro q hq
        have : q.1 ≠ a.tmp := by
          intro e2
          exact hn'.1 (by rw [e, ← e2]; exact List.mem_map_of_mem hq)
        simp [hitR, this]
      rw [takeP, if_pos e]
      unfold pickR
      simp only [List.foldl_cons, hp, if_true, List.filter_cons, Bool.not_true, Bool.false_eq_true, if_false]
      rw [List.filter_eq_self.2 (fun q hq => by simp [hr q hq])]
      congr 1
      clear hn hn' h0 h0'
      generalize p.2 = t
      induction r generalizing t with
      | nil => rfl
      | cons q r ih => simp only [List.foldl_cons, hr q (by simp)]; exact ih (fun x hx => hr x (by simp [hx])) t
    · have hp : hitR a.tmp p = false := by simp [hitR, e]
      rw [takeP, if_neg e, take_eq a r hn'.2 h0']
      unfold pickR
      simp [List.filter_cons, hp]

theorem pick_mem {n : Int} {t0 : Tree} : ∀ {w : Wt}, (pickR n t0 w).1 = t0 ∨ ∃ p ∈ w, (pickR n t0 w).1 = p.2
  | w => by
    unfold pickR
    suffices ∀ (w : Wt) (t : Tree), w.foldl (fun t p => if hitR n p = true then p.2 else t) t = t ∨ ∃ p ∈ w, w.foldl (fun t p => if hitR n p = true then p.2 else t) t = p.2 from this w t0
    intro w
    induction w with
    | nil => intro t; exact .inl rfl
    | cons p r ih =>
      intro t
      simp only [List.foldl_cons]
      rcases ih (if hitR n p = true then p.2 else t) with h | ⟨q, hq, h⟩
      · split at h
        · exact .inr ⟨p, by simp, by rw [if_pos ‹_›]; exact h⟩
        · exact .inl (by rw [if_neg ‹_›]; exact h)
      · exact .inr ⟨q, by simp [hq], h⟩

theorem WW.filter {w : Wt} (h : WW w) (p : Int × Tree → Bool) : WW (w.filter p) :=
  ⟨(List.filter_sublist.map _).nodup h.nodup, fun q hq => h.nn q (List.mem_filter.1 hq).1, fun q hq => h.wt q (List.mem_filter.1 hq).1⟩

theorem takes_eq : ∀ (l : List Atom) (w : Wt), WW w → takesP l w = takenR l w ∧ WW (takenR l w).2 ∧ WTs (takenR l w).1 ∧ (takenR l w).2.Sublist w
  | [], w, h => ⟨rfl, h, .nil, List.Sublist.refl _⟩
  | a :: r, w, h => by
    have e := take_eq a w h.nodup h.nn
    have h1 : WW (pickR a.tmp (leafT a) w).2 := h.filter _
    obtain ⟨i1, i2, i3, i4⟩ := takes_eq r _ h1
    refine ⟨by simp only [takesP, takenR, e, i1], i2, .cons _ _ ?_ i3, i4.trans List.filter_sublist⟩
    rcases pick_mem (n := a.tmp) (t0 := leafT a) (w := w) with hp | ⟨p, hp, hp2⟩
    · rw [hp]; exact .leaf a
    · rw [hp2]; exact (h.wt p hp).1

/-- What a valid statement is by its fields. -/
structure VS (s : Stmt) : Prop where
  set : s.kind = 2 → s.l = [] ∧ 0 ≤ s.tmp ∧ s.e.kind ≠ 0
  other : s.kind ≠ 2 → s.e.l = []
  put : s.kind = 3 → s.l.length = 1

theorem made_eq {s : Stmt} (h : VS s) {w : Wt} (hw : WW w) : madeP s w = stmtR s w ∧ WW (stmtR s w).2 ∧ (stmtR s w).2.Sublist w ∧ WTs (stmtR s w).1.l ∧ (s.kind = 2 → ∃ l, WTs l ∧ (stmtR s w).1.e = nodeT s.e l) ∧ (s.kind ≠ 2 → (stmtR s w).1.l = (takenR s.l w).1) := by
  unfold madeP stmtR
  by_cases hk : s.kind = 2
  · obtain ⟨i1, i2, i3, i4⟩ := takes_eq s.e.l w hw
    have hl := (h.set hk).1
    simp only [if_pos hk, hl, i1, takesP]
    refine ⟨?_, i2, i4, .nil, fun _ => ⟨_, i3, rfl⟩, fun h => (h hk).elim⟩
    simp [bareT]
  · obtain ⟨i1, i2, i3, i4⟩ := takes_eq s.l w hw
    simp only [if_neg hk, i1]
    exact ⟨trivial, i2, i4, i3, fun h => (hk h).elim, fun _ => trivial⟩

/-- One statement: what is put out, what waits. -/
def stepB (dist : TStmt → Tree → Bool) (make : Stmt → Wt → TStmt × Wt) (uses : Int → Int) (b : List TStmt × Wt) (s : Stmt) : List TStmt × Wt :=
  let x := make s b.2
  let out := b.1 ++ (x.2.filter fun p => dist x.1 p.2).map setT
  let w := x.2.filter fun p => !dist x.1 p.2
  if s.kind = 2 ∧ uses s.tmp = 1 ∧ s.e.kind ≠ 1 then (out, w ++ [(s.tmp, x.1.e)]) else (out ++ [x.1], w)

/-- Every temporary is set at most once. -/
def Once : List Int → List Stmt → Prop
  | _, [] => True
  | D, s :: r => VS s ∧ (s.kind = 2 → s.tmp ∉ D) ∧ Once (if s.kind = 2 then s.tmp :: D else D) r

def headTy (ty : Tree → Int) (x : TStmt) : Int := match x.l with | [] => 0 | t :: _ => ty t
theorem step_eq (by_ w : Int → Int) (aty : Atom → Int) (ety : Int → Int → Int → Int → List Int → Int) (h0 : ∀ k ty op off l, 0 ∈ l → k ≠ 0 → ety k ty op off l = 0) (uses : Int → Int) {s : Stmt} (hs : VS s) {D : List Int} (hD : s.kind = 2 → s.tmp ∉ D) {b : List TStmt × Wt} (hw : WW b.2) (hsub : ∀ p ∈ b.2, p.1 ∈ D) :
    let dP := fun (x : TStmt) (t : Tree) => anyN (distP by_ w (anyN (fun y => y.kind == 5) x.e) x.kind x.off (by_ (headTy (typP aty ety) x))) t
    let dR := fun (x : TStmt) (t : Tree) => distR by_ w (hasM 5 x.e) x.kind x.off (by_ (headTy (fun t => typR aty ety t false) x)) t
    stepB dP madeP uses b s = stepB dR stmtR uses b s ∧ WW (stepB dR stmtR uses b s).2 ∧ (∀ p ∈ (stepB dR stmtR uses b s).2, p.1 ∈ (if s.kind = 2 then s.tmp :: D else D)) := by
  intro dP dR
  obtain ⟨m1, m2, m3, m4, m5, m6⟩ := made_eq hs hw
  have hd : ∀ p ∈ (stmtR s b.2).2, dP (stmtR s b.2).1 p.2 = dR (stmtR s b.2).1 p.2 := by
    intro p hp
    show anyN _ _ = distR _ _ _ _ _ _ _
    rw [dist_eq _ _ _ _ _ _ _ (m2.wt p hp).1]
    have hkind : (stmtR s b.2).1.kind = s.kind := by unfold stmtR; split <;> rfl
    have e1 : headTy (typP aty ety) (stmtR s b.2).1 = headTy (fun t => typR aty ety t false) (stmtR s b.2).1 := by
      unfold headTy
      cases hl : (stmtR s b.2).1.l with
      | nil => rfl
      | cons t r =>
        rw [hl] at m4
        simp only []
        rw [typ_eq aty ety h0 t (m4.mem t (by simp))]
    rw [e1]
    by_cases hk : s.kind = 2
    · obtain ⟨l, hl, he⟩ := m5 hk
      have e2 : anyN (fun y => y.kind == 5) (stmtR s b.2).1.e = hasM 5 (stmtR s b.2).1.e := by
        rw [he]
        simp only [nodeT, anyN, anyNs_any, hasM, hasL_any, if_neg (hs.set hk).2.2]
        have e0 : (Tree.mk zA s.e.kind s.e.ty s.e.op s.e.off l).kind = s.e.kind := rfl
        rw [e0]
        rw [any_congr fun x hx => (has_any 5 (by decide) x (hl.mem x hx)).symm]
        by_cases h5 : s.e.kind = 5 <;> simp [h5]
      rw [e2]
    · unfold distR
      have : ∀ b : List TStmt × Wt, ((stmtR s b.2).1.kind != 2) = true := by intro b; unfold stmtR; rw [if_neg hk]; simpa [bareT] using hk
      simp only [this, Bool.true_or]
  have f1 : ((stmtR s b.2).2.filter fun p => dP (stmtR s b.2).1 p.2) = (stmtR s b.2).2.filter fun p => dR (stmtR s b.2).1 p.2 := List.filter_congr fun p hp => hd p hp
  have f2 : ((stmtR s b.2).2.filter fun p => !dP (stmtR s b.2).1 p.2) = (stmtR s b.2).2.filter fun p => !dR (stmtR s b.2).1 p.2 := List.filter_congr fun p hp => by rw [hd p hp]
  refine ⟨by simp only [stepB, m1, f1, f2], ?_, ?_⟩
  · unfold stepB
    simp only
    have hf := m2.filter fun p => !dR (stmtR s b.2).1 p.2
    by_cases hc : s.kind = 2 ∧ uses s.tmp = 1 ∧ s.e.kind ≠ 1
    · rw [if_pos hc]
      obtain ⟨l, hl, he⟩ := m5 hc.1
      refine ⟨?_, ?_, ?_⟩
      · simp only [List.map_append, List.map_cons, List.map_nil]
        rw [List.nodup_append]
        refine ⟨hf.nodup, by simp, ?_⟩
        intro x hx y hy e
        simp only [List.mem_singleton] at hy
        obtain ⟨p, hp, rfl⟩ := List.mem_map.1 hx
        have := hsub p (m3.subset ((List.mem_filter.1 hp).1))
        rw [e, hy] at this
        exact hD hc.1 this
      · intro p hp
        rcases List.mem_append.1 hp with hp | hp
        · exact hf.nn p hp
        · simp only [List.mem_singleton] at hp; subst hp; exact (hs.set hc.1).2.1
      · intro p hp
        rcases List.mem_append.1 hp with hp | hp
        · exact hf.wt p hp
        · simp only [List.mem_singleton] at hp; subst hp
          rw [he]
          exact ⟨.node _ _ _ _ _ (hs.set hc.1).2.2 hc.2.2 hl, (hs.set hc.1).2.2⟩
    · rw [if_neg hc]; exact hf
  · intro p hp
    unfold stepB at hp
    simp only at hp
    have hm : ∀ q ∈ (stmtR s b.2).2.filter (fun p => !dR (stmtR s b.2).1 p.2), q.1 ∈ D := fun q hq => hsub q (m3.subset (List.mem_filter.1 hq).1)
    by_cases hc : s.kind = 2 ∧ uses s.tmp = 1 ∧ s.e.kind ≠ 1
    · rw [if_pos hc] at hp
      rw [if_pos hc.1]
      rcases List.mem_append.1 hp with hp | hp
      · exact List.mem_cons_of_mem _ (hm p hp)
      · simp only [List.mem_singleton] at hp; subst hp; simp
    · rw [if_neg hc] at hp
      split
      · exact List.mem_cons_of_mem _ (hm p hp)
      · exact hm p hp

theorem fold_eq (by_ w : Int → Int) (aty : Atom → Int) (ety : Int → Int → Int → Int → List Int → Int) (h0 : ∀ k ty op off l, 0 ∈ l → k ≠ 0 → ety k ty op off l = 0) (uses : Int → Int) : ∀ (l : List Stmt) (D : List Int) (b : List TStmt × Wt), Once D l → WW b.2 → (∀ p ∈ b.2, p.1 ∈ D) →
    l.foldl (stepB (fun (x : TStmt) (t : Tree) => anyN (distP by_ w (anyN (fun y => y.kind == 5) x.e) x.kind x.off (by_ (headTy (typP aty ety) x))) t) madeP uses) b = l.foldl (stepB (fun (x : TStmt) (t : Tree) => distR by_ w (hasM 5 x.e) x.kind x.off (by_ (headTy (fun t => typR aty ety t false) x)) t) stmtR uses) b ∧
    WW (l.foldl (stepB (fun (x : TStmt) (t : Tree) => distR by_ w (hasM 5 x.e) x.kind x.off (by_ (headTy (fun t => typR aty ety t false) x)) t) stmtR uses) b).2
  | [], D, b, _, hw, _ => ⟨rfl, hw⟩
  | s :: r, D, b, ho, hw, hs => by
    obtain ⟨h1, h2, h3⟩ := ho
    obtain ⟨e1, e2, e3⟩ := step_eq by_ w aty ety h0 uses h1 h2 hw hs
    simp only [List.foldl_cons]
    rw [e1]
    exact fold_eq by_ w aty ety h0 uses r _ _ h3 e2 e3
end Go.Sv
end
