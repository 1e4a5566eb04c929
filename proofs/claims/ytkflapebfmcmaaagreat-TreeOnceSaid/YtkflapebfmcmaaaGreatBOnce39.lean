/- Parts of the proofs of this seat's laws. -/
import Derived.Test.YtkflapebfmcmaaaGreatBOnce38
import Derived.Test.YtkflapebfmcmaaaGreatBOnce27
section
namespace Go.Sv
open Go Go.Proofs Go.Proofs.YtkflapebfmcmaaaGreat
set_option linter.all false
set_option maxRecDepth 100000

theorem exI_bindq {g : Option (List SV)} {c : Bool} {v : Int} {K : List SV → Option (SV × St)} (h1 : g = some [.v (.bool c)]) (h2 : ExI (K [.v (.bool c)]) v) : ExI (g.bind K) v := by
  rw [h1]; exact h2
theorem ms_z {k : K} (hz : zero? k 4 = some [.v (.bool false)]) (hP : k.P = Tryz.prog) (hb : bytes? k 4 = some 1) {n : Nat} (hn : n ≤ 4000) (S : St) : makeSliceE k 124 (.v (.int .i64 (n : Int))) (.v (.int .i64 (n : Int))) S = some (.arr S.next n, S.alloc (.arr 1 (flags n []))) := by
  simp only [makeSliceE, elem_of hP Tryz.underlying124, hz, hb, size_of hP size4, Option.bind_some]
  rw [if_pos ⟨trivial, by omega, by simp [room]; omega, by decide, by decide, by decide⟩]
  simp only [Int.toNat_natCast, flags0]
  rfl
theorem zero4_23 : zero? (kt.at 23) 4 = some [.v (.bool false)] := by kernel_rfl
theorem bytes4_23 : bytes? (kt.at 23) 4 = some 1 := by kernel_rfl

/-- What a block's lists are bounded by. -/
def bndB (b : Block) : Prop := ∀ s ∈ b.l, (s.l.length ≤ 190000 ∧ s.e.l.length ≤ 190000) ∧ (∀ a ∈ s.l, a.ok) ∧ (∀ a ∈ s.e.l, a.ok)

def z57 : List SV := [(.v (.int .i64 (0 : Int))), (.v (.int .i64 (0 : Int))), (.v (.int .i64 (0 : Int))), (.v (.int .i64 (0 : Int))), (.v (.int .i64 (0 : Int))), (.v (.int .u32 (0 : Int))), (.v (.int .u32 (0 : Int))), (.v (.int .i64 (0 : Int))), (.v (.int .i64 (0 : Int))), (.v (.int .i64 (0 : Int))), (.v (.int .i64 (0 : Int))), (.v (.slice none 0 0)), (.v (.slice none 0 0))]
theorem openAgg57' {Z : Type} (s : Stmt) (K : cd57.α → Option Z) : openAgg cd57 (.agg s.t57.enc) K = K s.t57 := rfl

/-- The flags are those of D. -/
def InvC (n : Nat) (D : List Int) (S : St) : Prop := S.floor = 0 ∧ 0 < S.next ∧ S.get 0 = .arr 1 (flags n D)
theorem InvC.box {n : Nat} {D : List Int} {S : St} (h : InvC n D S) (z o : SObj) : InvC n D (boxed S z o) :=
  ⟨h.1, by rw [boxed_next]; omega, by rw [boxed_get _ _ _ _ h.2.1]; exact h.2.2⟩

set_option maxHeartbeats 4000000 in
theorem spec23 (b : Block) (hB : bndB b) (hT : b.tmps.length ≤ 1000000000) (hL : b.l.length ≤ 1000000000) (hS : b.spans.length ≤ 1000000000) (S : St) : run kt (.func 23 [] []) [.agg b.t31.enc] S = some (.v (.int .i64 (errB b)), S) := by
  refine closed_int h23 1000000 rfl (fn_kt 23 fn23) rfl ?_
  simp only [List.map_cons, List.map_nil, block_ws]
  rw [tell23]
  have t1 : b.t31.tmps = nums b.tmps := rfl
  have t2 : b.t31.l = stmts b.l := rfl
  have t3 : b.t31.spans = spanl b.spans := rfl
  simp only [t1, t2, t3, len_nums (P_kt 23), len_stmts (P_kt 23), len_spans (P_kt 23), Option.bind_some, openInt_v]
  refine exI_bindq (c := !decide (b.tmps.length ≤ 4000 ∧ b.l.length ≤ 2000 ∧ b.spans.length ≤ 100)) ?_ ?_
  · simp only [splitB_dec]
    by_cases c1 : b.tmps.length ≤ 4000
    · rw [if_neg (by omega)]
      by_cases c2 : b.l.length ≤ 2000
      · rw [if_neg (by omega)]
        by_cases c3 : b.spans.length ≤ 100
        · have : ¬ ((b.spans.length : Int) > 100) := by omega
          simp [c1, c2, c3, this]
        · have : ((b.spans.length : Int) > 100) := by omega
          simp [c1, c2, c3, this]
      · rw [if_pos (by omega)]; simp [c2]
    · rw [if_pos (by omega)]; simp [c1]
  simp only [openHd_v, openBool_v]
  refine exI_split (fun h => ?_) fun hlim => ?_
  · have : errB b = 7 := by
      unfold errB okB
      have : ¬ limB b := by
        intro hl
        have h' : ¬ (b.tmps.length ≤ 4000 ∧ b.l.length ≤ 2000 ∧ b.spans.length ≤ 100) := by
          intro hh; rw [decide_eq_true hh] at h; cases h
        exact h' ⟨hl.1, hl.2.1, hl.2.2.1⟩
      simp [this]
    rw [this]; exact exI _ _
  have hlim : b.tmps.length ≤ 4000 ∧ b.l.length ≤ 2000 ∧ b.spans.length ≤ 100 := by
    by_cases hh : b.tmps.length ≤ 4000 ∧ b.l.length ≤ 2000 ∧ b.spans.length ≤ 100
    · exact hh
    · rw [decide_eq_false hh] at hlim; cases hlim
  simp only [splitB_dec]
  -- types
  generalize hF : (fun vs10 S11 => _ : List SV → St → Option (Ex × List SV × St)) = F
  obtain ⟨j1, e1⟩ := iter_anyX 0 (F := F) b.tmps (fun i => [.v (.int .i64 0), .v (.int .i64 (i : Int))]) St0 (fun t => bytesM t == 0) (fun i => [.v (.int .i64 7), .v (.int .i64 (i : Int))])
    (fun i h => by
      rw [← hF]
      simp only [openHd_v, openInt_v]
      rw [if_pos (by omega), index_nums (P_kt 23) .i64 b.tmps i h]
      simp only [Option.bind_some, load_cp (P_kt 23), openInt_v, spec77, splitB_if]
      rw [wrap_in (by omega) (by omega)]
      rfl)
    (by
      rw [← hF]
      simp only [openHd_v, openInt_v]
      rw [if_neg (by omega)]) (M := 1000000) (by omega)
  have e1 : iter F 1000000 [.v (.int .i64 0), .v (.int .i64 0)] St0 = _ := e1
  rw [e1]
  clear e1 hF
  by_cases ht : (b.tmps.any fun t => bytesM t == 0) = true
  · rw [if_pos ht]
    have : errB b = 7 := by
      unfold errB okB
      have : ¬ limB b := by
        intro hl
        obtain ⟨t, h1, h2⟩ := List.any_eq_true.1 ht
        exact hl.2.2.2.1 t h1 (by simpa using h2)
      simp [this]
    rw [this]; exact exI _ _
  rw [if_neg ht]
  simp only [Option.bind_some, openHd_v, openInt_v, exits_exit, if_true]
  -- spans
  generalize hF : (fun vs10 S11 => _ : List SV → St → Option (Ex × List SV × St)) = F
  obtain ⟨j1, e1⟩ := iter_anyX 2 (F := F) b.spans (fun i => [.v (.int .i64 0), .v (.int .i64 (i : Int))]) St0 badSpan (fun i => [.v (.int .i64 7), .v (.int .i64 (i : Int))])
    (fun i h => by
      rw [← hF]
      simp only [openHd_v, openInt_v]
      rw [if_pos (by omega), index_spans (P_kt 23) .i64 b.spans i h]
      simp only [Option.bind_some, openCp108']
      rw [wrap_in (by omega) (by omega)]
      unfold badSpan
      simp only [Span.t108]
      by_cases c1 : b.spans[i].n < 1
      · simp only [c1, if_true, Option.bind_some, openHd_v, openBool_v, decide_true, Bool.true_or, splitB_t]
        try rfl
      · simp only [c1, if_false, Option.bind_some, openHd_v, openBool_v, decide_false, Bool.false_or, splitB_if]
        rfl)
    (by
      rw [← hF]
      simp only [openHd_v, openInt_v]
      rw [if_neg (by omega)]) (M := 1000000) (by omega)
  have e1 : iter F 1000000 [.v (.int .i64 0), .v (.int .i64 0)] St0 = _ := e1
  rw [e1]
  clear e1 hF
  by_cases hs : b.spans.any badSpan = true
  · rw [if_pos hs]
    have : errB b = 7 := by
      unfold errB okB
      have : ¬ limB b := by
        intro hl
        obtain ⟨t, h1, h2⟩ := List.any_eq_true.1 hs
        rw [hl.2.2.2.2 t h1] at h2; cases h2
      simp [this]
    rw [this]; exact exI _ _
  rw [if_neg hs]
  simp only [Option.bind_some, openHd_v, openInt_v, exits_exit, if_true]
  have hlimB : limB b := ⟨hlim.1, hlim.2.1, hlim.2.2, fun t h h0 => ht (List.any_eq_true.2 ⟨t, h, by simpa using h0⟩), fun p h => by
    cases hb : badSpan p with
    | false => rfl
    | true => exact (hs (List.any_eq_true.2 ⟨p, h, hb⟩)).elim⟩
  rw [ms_z zero4_23 (P_kt 23) bytes4_23 hlim.1]
  simp only [Option.bind_some, next0]
  -- statements
  generalize hF : (fun vs10 S11 => _ : List SV → St → Option (Ex × List SV × St)) = F
  have inv0 : InvC b.tmps.length [] (St0.alloc (.arr 1 (flags b.tmps.length []))) := ⟨rfl, by simp [St.alloc], by simp [St.alloc, St0]⟩
  have main := iter_foldO 4 (F := F) b.l (stepC b.tmps) (fun i => [.v (.int .i64 0), .v (.int .i64 (i : Int))]) (InvC b.tmps.length) (fun o => ∃ i : Int, o = [.v (.int .i64 7), .v (.int .i64 i)])
    (fun i h D S hI => by
      have hb := hB b.l[i] (List.getElem_mem h)
      generalize hsi : b.l[i] = s at hb
      have hz := hI.box (.cells z57) (.cells s.t57.enc)
      have hld : loadE (kt.at 23) 57 (.ptr S.next 0) (boxed S (.cells z57) (.cells s.t57.enc)) = some (.agg s.t57.enc) := load_box (agg_st (P_kt 23) Tryz.underlying57) (sz57 (P_kt 23)) rfl
      have hst : ∀ {Z : Type} (K : St → Option Z), storeK (kt.at 23) 57 (.ptr S.next 0) (.agg s.t57.enc) (S.alloc (.cells z57)) K = K (boxed S (.cells z57) (.cells s.t57.enc)) := fun K => store_box (sz57 (P_kt 23)) (by decide) (by rw [hI.1]; omega) rfl rfl K
      have hnx : S.next < (boxed S (.cells z57) (.cells s.t57.enc)).next := by rw [boxed_next]; omega
      have hFi : ∀ X, F [.v (.int .i64 0), .v (.int .i64 (i : Int))] S = X → F ((fun i => [.v (.int .i64 0), .v (.int .i64 (i : Int))]) i) S = X := fun X h => h
      have hv := spec78 b.tmps s (by omega) (by omega)
      have hu := spec79 s hb.1.1 hb.1.2
      have hd := spec80 s
      -- the round, up to where it is judged
      have round : F [.v (.int .i64 0), .v (.int .i64 (i : Int))] S = if validM b.tmps s = true then (if (insAll (usesAt s) []).any (fun x => !D.contains x) = true then some (.ret, [.v (.int .i64 7), .v (.int .i64 (i : Int))], boxed S (.cells z57) (.cells s.t57.enc)) else if 0 ≤ defM s then (if D.contains (defM s) = true then some (.ret, [.v (.int .i64 7), .v (.int .i64 (i : Int))], boxed S (.cells z57) (.cells s.t57.enc)) else some (.normal, [.v (.int .i64 0), .v (.int .i64 ((i + 1 : Nat) : Int))], (boxed S (.cells z57) (.cells s.t57.enc)).put 0 (.arr 1 (flags b.tmps.length (defM s :: D))))) else some (.normal, [.v (.int .i64 0), .v (.int .i64 ((i + 1 : Nat) : Int))], boxed S (.cells z57) (.cells s.t57.enc))) else some (.ret, [.v (.int .i64 7), .v (.int .i64 (i : Int))], boxed S (.cells z57) (.cells s.t57.enc)) := by
        rw [← hF]
        simp only [openHd_v, openInt_v]
        rw [if_pos (by omega), index_stmts (P_kt 23) .i64 b.l i h, hsi]
        simp only [Option.bind_some, openCp57']
        rw [show (St.alloc S (.cells [(.v (.int .i64 (0 : Int))), (.v (.int .i64 (0 : Int))), (.v (.int .i64 (0 : Int))), (.v (.int .i64 (0 : Int))), (.v (.int .i64 (0 : Int))), (.v (.int .u32 (0 : Int))), (.v (.int .u32 (0 : Int))), (.v (.int .i64 (0 : Int))), (.v (.int .i64 (0 : Int))), (.v (.int .i64 (0 : Int))), (.v (.int .i64 (0 : Int))), (.v (.slice none 0 0)), (.v (.slice none 0 0))])) = S.alloc (.cells z57) from rfl]
        rw [hst]
        simp only [hld, Option.bind_some, openAgg57', hv, openBool_v]
        cases hvb : validM b.tmps s with
        | false => rfl
        | true =>
          simp only [Bool.not_true, splitB_f, if_true, hu, Option.bind_some]
          have hur : ∀ x ∈ insAll (usesAt s) [], 0 ≤ x ∧ x < b.tmps.length := by
            intro x hx
            rcases (insAll_mem x (usesAt s) []).1 hx with ⟨h0, a, ha, rfl⟩ | hx
            · exact ⟨h0, atomTy_in (valid_uses hvb a ha)⟩
            · simp at hx
          have hul := insAll_len (usesAt s) []
          have hul2 : (usesAt s).length ≤ 380000 := by
            unfold usesAt; rw [List.length_append]
            split
            · omega
            · simp; omega
          generalize insAll (usesAt s) [] = U at hur hul
          simp only [List.length_nil, Nat.zero_add] at hul
          generalize hS1 : boxed S (.cells z57) (.cells s.t57.enc) = S1 at hz hld
          generalize hG : (fun vs82 S83 => _ : List SV → St → Option (Ex × List SV × St)) = G
          obtain ⟨j, ej⟩ := iter_anyX 6 (F := G) U (fun i => [.v (.int .i64 0), .v (.int .i64 (i : Int))]) S1 (fun x => !D.contains x) (fun i => [.v (.int .i64 7), .v (.int .i64 (i : Int))])
            (fun i h => by
              have hr := hur U[i] (List.getElem_mem h)
              rw [← hG]
              simp only [openHd_v, openInt_v, len_nums (P_kt 23), Option.bind_some]
              rw [if_pos (by omega), index_nums (P_kt 23) .i64 U i h]
              simp only [Option.bind_some, load_cp (P_kt 23), openInt_v]
              rw [flag_addr (P_kt 23) 0 _ _ hr.1 hr.2]
              simp only [Option.bind_some]
              rw [flag_load (P_kt 23) hz.2.2 _ hr.1 hr.2]
              simp only [Option.bind_some, openBool_v, splitB_if]
              rw [wrap_in (by omega) (by omega)]
              rfl)
            (by
              rw [← hG]
              simp only [openHd_v, openInt_v, len_nums (P_kt 23), Option.bind_some]
              rw [if_neg (by omega)]) (M := 1000000) (by omega)
          have ej : iter G 1000000 [.v (.int .i64 0), .v (.int .i64 0)] S1 = _ := ej
          rw [ej]
          clear ej hG
          by_cases hany : (U.any fun x => !D.contains x) = true
          · rw [if_pos hany, if_pos hany]
            rfl
          · rw [if_neg hany, if_neg hany]
            simp only [Option.bind_some, openHd_v, openInt_v, exits_exit, if_true, hld, openAgg57', hd]
            have hw : IntKind.wrap .i64 ((i : Int) + 1) = ((i + 1 : Nat) : Int) := wrap_in (by omega) (by omega)
            rcases (valid_def hvb).2 with hdm | hdm
            · rw [if_neg (by rw [hdm]; decide), if_neg (by rw [hdm]; decide), hw]
            · rw [if_pos (by omega), if_pos hdm.1]
              rw [flag_addr (P_kt 23) 0 _ _ hdm.1 hdm.2]
              simp only [Option.bind_some]
              rw [flag_load (P_kt 23) hz.2.2 _ hdm.1 hdm.2]
              simp only [Option.bind_some, openBool_v, splitB_if]
              rw [flag_store (P_kt 23) hz.2.2 (by rw [hz.1]; decide) _ hdm.1 hdm.2, hw]
      rw [round]
      clear round
      have hstep : ∀ x, stepC b.tmps D s = x → (match x with
        | none => ∃ o S', (∃ i : Int, o = [.v (.int .i64 7), .v (.int .i64 i)]) ∧ (if validM b.tmps s = true then (if (insAll (usesAt s) []).any (fun x => !D.contains x) = true then some (Ex.ret, [SV.v (.int .i64 7), SV.v (.int .i64 (i : Int))], boxed S (.cells z57) (.cells s.t57.enc)) else if 0 ≤ defM s then (if D.contains (defM s) = true then some (.ret, [.v (.int .i64 7), .v (.int .i64 (i : Int))], boxed S (.cells z57) (.cells s.t57.enc)) else some (.normal, [.v (.int .i64 0), .v (.int .i64 ((i + 1 : Nat) : Int))], (boxed S (.cells z57) (.cells s.t57.enc)).put 0 (.arr 1 (flags b.tmps.length (defM s :: D))))) else some (.normal, [.v (.int .i64 0), .v (.int .i64 ((i + 1 : Nat) : Int))], boxed S (.cells z57) (.cells s.t57.enc))) else some (.ret, [.v (.int .i64 7), .v (.int .i64 (i : Int))], boxed S (.cells z57) (.cells s.t57.enc))) = some (.ret, o, S')
        | some D' => ∃ S', (if validM b.tmps s = true then (if (insAll (usesAt s) []).any (fun x => !D.contains x) = true then some (Ex.ret, [SV.v (.int .i64 7), SV.v (.int .i64 (i : Int))], boxed S (.cells z57) (.cells s.t57.enc)) else if 0 ≤ defM s then (if D.contains (defM s) = true then some (.ret, [.v (.int .i64 7), .v (.int .i64 (i : Int))], boxed S (.cells z57) (.cells s.t57.enc)) else some (.normal, [.v (.int .i64 0), .v (.int .i64 ((i + 1 : Nat) : Int))], (boxed S (.cells z57) (.cells s.t57.enc)).put 0 (.arr 1 (flags b.tmps.length (defM s :: D))))) else some (.normal, [.v (.int .i64 0), .v (.int .i64 ((i + 1 : Nat) : Int))], boxed S (.cells z57) (.cells s.t57.enc))) else some (.ret, [.v (.int .i64 7), .v (.int .i64 (i : Int))], boxed S (.cells z57) (.cells s.t57.enc))) = some (.normal, [SV.v (.int .i64 0), SV.v (.int .i64 ((i + 1 : Nat) : Int))], S') ∧ InvC b.tmps.length D' S') := by
        rintro x rfl
        have hU : ((insAll (usesAt s) []).any (fun x => !D.contains x) = true) ↔ ¬ (∀ a ∈ usesAt s, 0 ≤ a.tmp → a.tmp ∈ D) := by
          rw [List.any_eq_true]
          constructor
          · rintro ⟨x, hx, hc⟩ hall
            rcases (insAll_mem x (usesAt s) []).1 hx with ⟨h0, a, ha, rfl⟩ | hx
            · have := hall a ha h0
              simp [this] at hc
            · simp at hx
          · intro hn
            refine Classical.byContradiction fun hh => hn fun a ha h0 => ?_
            refine Classical.byContradiction fun hc => hh ⟨a.tmp, (insAll_mem _ _ _).2 (.inl ⟨h0, a, ha, rfl⟩), by simp [hc]⟩
        unfold stepC
        by_cases hv1 : validM b.tmps s = true
        · by_cases hu1 : ∀ a ∈ usesAt s, 0 ≤ a.tmp → a.tmp ∈ D
          · have hu2 : ¬ ((insAll (usesAt s) []).any (fun x => !D.contains x) = true) := fun h => hU.1 h hu1
            simp only [if_pos hv1, if_neg hu2]
            by_cases hd0 : 0 ≤ defM s
            · by_cases hd1 : defM s ∈ D
              · rw [if_neg (by rintro ⟨_, _, h⟩; exact h hd0 hd1)]
                rw [if_pos hd0, if_pos (by simpa using hd1)]
                exact ⟨_, _, ⟨_, rfl⟩, rfl⟩
              · rw [if_pos ⟨hv1, hu1, fun _ => hd1⟩, if_pos hd0]
                simp only
                rw [if_pos hd0, if_neg (by simpa using hd1)]
                exact ⟨_, rfl, hz.1, hz.2.1, put_get _ _ _⟩
            · rw [if_pos ⟨hv1, hu1, fun h => (hd0 h).elim⟩, if_neg hd0]
              simp only
              rw [if_neg hd0]
              exact ⟨_, rfl, hz⟩
          · rw [if_neg (by rintro ⟨_, h, _⟩; exact hu1 h)]
            rw [if_pos hv1, if_pos (hU.2 hu1)]
            exact ⟨_, _, ⟨_, rfl⟩, rfl⟩
        · rw [if_neg (by rintro ⟨h, _⟩; exact hv1 h)]
          rw [if_neg hv1]
          exact ⟨_, _, ⟨_, rfl⟩, rfl⟩
      have hh := hstep _ rfl
      revert hh
      generalize stepC b.tmps D s = x
      cases x <;> exact fun h => h)
    (fun D S hI => by
      rw [← hF]
      simp only [openHd_v, openInt_v]
      rw [if_neg (by omega)]) b.l 0 rfl (by omega) [] _ 1000000 inv0 (by omega)
  rw [← chkL_foldlM] at main
  cases hc : chkL b.tmps [] b.l with
  | none =>
    rw [hc] at main
    obtain ⟨o, S', ⟨i, rfl⟩, hi⟩ := main
    have hi : iter F 1000000 [.v (.int .i64 0), .v (.int .i64 0)] _ = _ := hi
    rw [hi]
    have : errB b = 7 := by unfold errB okB; simp [hc]
    rw [this]; exact exI _ _
  | some D =>
    rw [hc] at main
    obtain ⟨S', hi, hI⟩ := main
    have hi : iter F 1000000 [.v (.int .i64 0), .v (.int .i64 0)] _ = _ := hi
    rw [hi]
    simp only [Option.bind_some, openHd_v, openInt_v, exits_exit, if_true]
    have he : errB b = if endB b D = true then 0 else 7 := by
      unfold errB okB
      rw [hc, decide_eq_true hlimB, Bool.true_and]
    have h81 := spec81 b.tmps b.next S'
    refine exI_bindq (c := !endB b D) ?_ ?_
    · have h81 : run kt (.func 81 [] []) [nums b.tmps, .agg [(.v (.int .i64 b.t31.next_Tmp)), (.v (.int .i64 b.t31.next_Ty)), (.v (.int .u32 b.t31.next_C0)), (.v (.int .u32 b.t31.next_C1)), (.v (.int .u32 b.t31.next_C2)), (.v (.int .u32 b.t31.next_C3))]] S' = _ := h81
      rw [h81]
      simp only [Option.bind_some, openInt_v]
      unfold endB
      by_cases h32 : atomTy b.tmps b.next = 32
      · have e1 : (atomTy b.tmps b.next != 32) = false := by simp [h32]
        have e2 : (atomTy b.tmps b.next == 32) = true := by simp [h32]
        rw [e1, e2, splitB_f]
        have hin : b.next.tmp < b.tmps.length := atomTy_in (by rw [h32]; decide)
        have jmp : (if b.t31.jump < (1 : Int) then some [SV.v (.bool true)] else some [SV.v (.bool (decide (b.t31.jump > (9 : Int))))]) = some [SV.v (.bool (!(decide (1 ≤ b.jump) && decide (b.jump ≤ 9))))] := by
          show (if b.jump < (1 : Int) then some [SV.v (.bool true)] else some [SV.v (.bool (decide (b.jump > (9 : Int))))]) = _
          by_cases h1 : b.jump < 1
          · have : ¬ 1 ≤ b.jump := by omega
            simp [h1, this]
          · have h1' : 1 ≤ b.jump := by omega
            by_cases h2 : b.jump > 9
            · have : ¬ b.jump ≤ 9 := by omega
              simp [h1, h2, this]
            · have : b.jump ≤ 9 := by omega
              simp [h1, h1', h2, this]
        rw [jmp]
        by_cases h0 : b.next.tmp ≥ 0
        · have e4 : decide (b.next.tmp < 0) = false := decide_eq_false (by omega)
          rw [if_pos (show b.t31.next_Tmp ≥ 0 from h0), e4, show (SV.v (.int .i64 b.t31.next_Tmp)) = .v (.int .i64 b.next.tmp) from rfl, flag_addr (P_kt 23) 0 _ _ h0 hin]
          simp only [Option.bind_some]
          rw [flag_load (P_kt 23) hI.2.2 _ h0 hin]
          simp only [Option.bind_some, openBool_v]
          cases D.contains b.next.tmp <;> rfl
        · have e4 : decide (b.next.tmp < 0) = true := decide_eq_true (by omega)
          rw [if_neg (show ¬ b.t31.next_Tmp ≥ 0 from h0), e4]; rfl
      · have e1 : (atomTy b.tmps b.next != 32) = true := by simp [h32]
        have e2 : (atomTy b.tmps b.next == 32) = false := by simp [h32]
        rw [e1, e2, splitB_t]; rfl
    rw [he]
    simp only [openHd_v, openBool_v]
    cases endB b D with
    | true => exact exI _ _
    | false => exact exI _ _
end Go.Sv
end
section
namespace Go.Sv
open Go Go.Proofs
set_option linter.all false
set_option maxRecDepth 1000000
set_option maxHeartbeats 0
def h54 : H := { hh with live := fun b => match b with | 0 => [(2, 1), (42, 1)] | _ => [], keep := fun b => match b with | 8 => some [(33, 2)] | 46 => some [(56, 2)] | 68 => some [(97, 2)] | _ => none }
theorem tell54 (N : Nat) (u0 : T31) : cBody (kt.at 54) h54 (run kt) N (compF Tryz.f54) [.agg u0.enc] St0 = ((lenE (kt.at 54) 22 u0.tmps).bind fun r0 => openInt r0 fun a1 => (splitB (.v (.bool (decide (a1 > (4000 : Int)))))
 ((some [(.v (.bool true))]))
 ((lenE (kt.at 54) 23 u0.l).bind fun r2 => openInt r2 fun a3 => (splitB (.v (.bool (decide (a3 > (2000 : Int)))))
 ((some [(.v (.bool true))]))
 ((lenE (kt.at 54) 29 u0.spans).bind fun r4 => openInt r4 fun a5 => (splitB (.v (.bool (decide (a5 > (100 : Int)))))
 ((some [(.v (.bool true))]))
 ((run kt (.func 109 [] []) [u0.tmps, (.func 110 [] [])] St0).bind fun p6 => openBool p6.1 fun b7 => (splitB (.v (.bool b7))
 ((some [(.v (.bool true))]))
 ((run kt (.func 112 [] []) [u0.spans, (.func 113 [] [])] p6.2).bind fun p8 => openBool p8.1 fun b9 => (some [(.v (.bool b9))])))))))))).bind fun vs10 => openHd vs10 fun y11 r12 => openBool y11 fun b13 => (splitB (.v (.bool b13))
 ((some ((.v (.int .i64 (7 : Int))), St0)))
 ((lenE (kt.at 54) 22 u0.tmps).bind fun r14 => openInt r14 fun a15 => (makeSliceE (kt.at 54) 124 (.v (.int .i64 a15)) (.v (.int .i64 a15)) St0).bind fun p16 => storeK (kt.at 54) 124 (.ptr (St.next p16.2) 0) p16.1 (St.alloc p16.2 (.cells [(.v (.slice none 0 0))])) fun S17 => storeK (kt.at 54) 156 (.ptr (St.next S17) 0) (.func 114 [] [(.ptr (St.next p16.2) 0)]) (St.alloc S17 (.cells [(.v .nilFunc)])) fun S18 => (lenE (kt.at 54) 23 u0.l).bind fun r19 => openInt r19 fun a20 => (iter (fun vs21 S22 => openHd vs21 fun y23 r24 => openInt y23 fun a25 => openHd r24 fun y26 r27 => openInt y26 fun a28 => (splitB (.v (.bool (decide (a28 < a20))))
 ((indexAddrE (kt.at 54) 23 u0.l (.v (.int .i64 a28))).bind fun r29 => openCp cd57 r29 fun t30 => storeK (kt.at 54) 57 (.ptr (St.next S22) 0) (.agg t30.enc) (St.alloc S22 (.cells [(.v (.int .i64 (0 : Int))), (.v (.int .i64 (0 : Int))), (.v (.int .i64 (0 : Int))), (.v (.int .i64 (0 : Int))), (.v (.int .i64 (0 : Int))), (.v (.int .u32 (0 : Int))), (.v (.int .u32 (0 : Int))), (.v (.int .i64 (0 : Int))), (.v (.int .i64 (0 : Int))), (.v (.int .i64 (0 : Int))), (.v (.int .i64 (0 : Int))), (.v (.slice none 0 0)), (.v (.slice none 0 0))])) fun S31 => ((loadE (kt.at 54) 57 (.ptr (St.next S22) 0) S31).bind fun r32 => openAgg cd57 r32 fun t33 => (run kt (.func 115 [] []) [u0.tmps, (.agg t33.enc)] S31).bind fun p34 => openBool p34.1 fun b35 => (splitB (.v (.bool (!b35)))
 ((some [(.v (.bool true))]))
 ((loadE (kt.at 54) 57 (.ptr (St.next S22) 0) p34.2).bind fun r36 => openAgg cd57 r36 fun t37 => (run kt (.func 116 [] []) [(.agg t37.enc)] p34.2).bind fun p38 => (run kt (.func 109 [] []) [p38.1, (.func 117 [] [(.ptr (St.next S17) 0)])] p38.2).bind fun p39 => openBool p39.1 fun b40 => (some [(.v (.bool b40))])))).bind fun vs41 => openHd vs41 fun y42 r43 => openBool y42 fun b44 => (splitB (.v (.bool b44))
 ((some (.ret, ([(.v (.int .i64 (7 : Int))), (.v (.int .i64 a28))], S31))))
 ((loadE (kt.at 54) 57 (.ptr (St.next S22) 0) S31).bind fun r45 => openAgg cd57 r45 fun t46 => (run kt (.func 118 [] []) [(.agg t46.enc)] S31).bind fun p47 => openInt p47.1 fun a48 => (splitB (.v (.bool (decide (a48 ≥ (0 : Int)))))
 ((loadE (kt.at 54) 156 (.ptr (St.next S17) 0) p47.2).bind fun r49 => (run kt r49 [(.v (.int .i64 a48))] p47.2).bind fun p50 => openBool p50.1 fun b51 => (splitB (.v (.bool b51))
 ((some (.ret, ([(.v (.int .i64 (7 : Int))), (.v (.int .i64 a28))], p50.2))))
 ((loadE (kt.at 54) 124 (.ptr (St.next p16.2) 0) p50.2).bind fun r52 => (indexAddrE (kt.at 54) 124 r52 (.v (.int .i64 a48))).bind fun r53 => storeK (kt.at 54) 4 r53 (.v (.bool true)) p50.2 fun S54 => (some (.normal, ([(.v (.int .i64 a25)), (.v (.int .i64 (IntKind.wrap .i64 (a28 + (1 : Int)))))], S54))))))
 ((some (.normal, ([(.v (.int .i64 a25)), (.v (.int .i64 (IntKind.wrap .i64 (a28 + (1 : Int)))))], p47.2))))))))
 ((some ((.exit 0), ([(.v (.int .i64 a25)), (.v (.int .i64 a28))], S22)))))) N [(.v (.int .i64 (0 : Int))), (.v (.int .i64 (0 : Int)))] S18).bind fun q55 => openHd q55.2.1 fun y56 r57 => openInt y56 fun a58 => openHd r57 fun y59 r60 => openInt y59 fun a61 => (exits q55.1 (fun i62 => (if i62 = 0 then (run kt (.func 119 [] []) [u0.tmps, (.agg [(.v (.int .i64 u0.next_Tmp)), (.v (.int .i64 u0.next_Ty)), (.v (.int .u32 u0.next_C0)), (.v (.int .u32 u0.next_C1)), (.v (.int .u32 u0.next_C2)), (.v (.int .u32 u0.next_C3))])] q55.2.2).bind fun p63 => openInt p63.1 fun a64 => (splitB (.v (.bool (a64 != (32 : Int))))
 ((some ((.v (.int .i64 (7 : Int))), p63.2)))
 ((splitB (.v (.bool (decide (u0.next_Tmp ≥ (0 : Int)))))
 ((loadE (kt.at 54) 156 (.ptr (St.next S17) 0) p63.2).bind fun r65 => (run kt r65 [(.v (.int .i64 u0.next_Tmp))] p63.2).bind fun p66 => openBool p66.1 fun b67 => (splitB (.v (.bool (!b67)))
 ((some ((.v (.int .i64 (7 : Int))), p66.2)))
 ((splitB (.v (.bool (decide (u0.jump < (1 : Int)))))
 ((some ((.v (.int .i64 (7 : Int))), p66.2)))
 ((splitB (.v (.bool (decide (u0.jump > (9 : Int)))))
 ((some ((.v (.int .i64 (7 : Int))), p66.2)))
 ((some ((.v (.int .i64 (0 : Int))), p66.2)))))))))
 ((splitB (.v (.bool (decide (u0.jump < (1 : Int)))))
 ((some ((.v (.int .i64 (7 : Int))), p63.2)))
 ((splitB (.v (.bool (decide (u0.jump > (9 : Int)))))
 ((some ((.v (.int .i64 (7 : Int))), p63.2)))
 ((some ((.v (.int .i64 (0 : Int))), p63.2)))))))))) else none)) ((some ((.v (.int .i64 a58)), q55.2.2)))))) := by kernel_rfl
theorem fn54 : fnsK 54 = some (compF Tryz.f54) := by kernel_rfl
end Go.Sv
end
