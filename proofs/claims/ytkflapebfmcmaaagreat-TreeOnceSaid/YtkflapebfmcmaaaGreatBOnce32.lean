/- Parts of the proofs of this seat's laws. -/
import Derived.Test.YtkflapebfmcmaaaGreatBOnce30
import Derived.Test.YtkflapebfmcmaaaGreatBOnce31
section
namespace Go.Sv
open Go Go.Proofs Go.Proofs.YtkflapebfmcmaaaGreat
set_option linter.all false
set_option maxRecDepth 100000

/-! The program's blocks (ir), function by function: they come to what the reference comes to. -/
theorem spec111 (t : Int) (S : St) : run kt (.func 111 [] []) [.v (.int .i64 t)] S = some (.v (.int .i64 (bytesM t)), S) := by
  have := go_closed ks_kt (f := 111) (fst := []) (cap := []) (args := [.v (.int .i64 t)]) (S := S) h111 4000 rfl (fn_kt 111 fn111) rfl (z := (.v (.int .i64 (bytesM t)), St0)) (by
    simp only [List.nil_append, List.append_nil, List.map_cons, List.map_nil, int_ws]
    rw [tell111]
    simp only [splitB_if, mi]
    rfl)
  exact this

theorem spec166 (t : Int) (S : St) : run kt (.func 166 [] []) [.v (.int .i64 t)] S = some (.v (.bool (storM t)), S) := by
  refine closed_bool h166 0 rfl (fn_kt 166 fn166) rfl ?_
  simp only [List.map_cons, List.map_nil, int_ws]
  rw [tell166]
  simp only [splitB_if, spec111, Option.bind_some, openInt_v]
  unfold storM
  cases (t != 1) <;> exact exB _ _

theorem spec196 (is : Bool) (t : Int) (S : St) : run kt (.func 196 [] []) [.v (.bool is), .v (.int .i64 t)] S = some (.v (.int .i64 (if is = true ∧ bytesM t ≠ 0 then t else 0)), S) := by
  refine closed_int h196 0 rfl (fn_kt 196 fn196) rfl ?_
  simp only [List.map_cons, List.map_nil, int_ws, bool_ws]
  rw [tell196]
  simp only [splitB_if, spec111, Option.bind_some, openInt_v]
  cases is with
  | false => exact exI _ _
  | true =>
    by_cases h : bytesM t = 0
    · simp only [h, beq_self_eq_true, Bool.not_true, Bool.false_eq_true, if_false, Option.bind_some, openHd_v, openBool_v, if_true, ne_eq, not_true, and_false]
      exact exI _ _
    · have h' : (bytesM t == 0) = false := by simpa using h
      simp only [h', Bool.not_true, Bool.false_eq_true, if_false, Option.bind_some, openHd_v, openBool_v, ne_eq, h, not_false_eq_true, and_true]
      exact exI _ _

theorem spec163 (e : Expr) (S : St) : run kt (.func 163 [] []) [.agg e.t55.enc] S = some (.v (.bool (noneM e)), S) := by
  refine closed_bool h163 0 rfl (fn_kt 163 fn163) rfl ?_
  simp only [List.map_cons, List.map_nil, expr_ws]
  rw [tell163]
  simp only [splitB_if, Expr.t55, len_atoms (P_kt 163), Option.bind_some, openInt_v, mlb, openHd_v, openBool_v, ite_and]
  have : ((e.l.length : Int) == 0) = decide (e.l.length = 0) := by
    by_cases h : e.l.length = 0 <;> simp [h]
  rw [this]
  exact exB _ _

theorem spec118 (s : Stmt) (S : St) : run kt (.func 118 [] []) [.agg s.t57.enc] S = some (.v (.int .i64 (defM s)), S) := by
  refine closed_int h118 0 rfl (fn_kt 118 fn118) rfl ?_
  simp only [List.map_cons, List.map_nil, stmt_ws]
  rw [tell118]
  simp only [splitB_if, Stmt.t57, mlb, Option.bind_some, openHd_v, openBool_v, ite_or, mi]
  exact exI _ _

theorem spec165 (off ty : Int) (S : St) : run kt (.func 165 [] []) [.v (.int .i64 off), .v (.int .i64 ty)] S = some (.v (.bool (placesM ty off)), S) := by
  refine closed_bool h165 0 rfl (fn_kt 165 fn165) rfl ?_
  simp only [List.map_cons, List.map_nil, int_ws]
  rw [tell165]
  simp only [splitB_dec]
  simp only [splitB_if, spec111, spec166, Option.bind_some, openInt_v, openBool_v]
  unfold placesM
  have hb := bytesM_pos ty
  cases h : storM ty with
  | false => simp [openHd_v, openBool_v]; exact exB _ _
  | true =>
    have h0 : bytesM ty ≠ 0 := by
      intro e
      simp [storM, e] at h
    rw [wrap_in (by omega) (by omega)]
    simp only [rem_v _ _ h0, eql_v, Option.bind_some, splitG_v, if_true, Bool.true_and]
    by_cases h2 : off ≥ 0
    · simp only [h2, if_true, decide_true, Bool.true_and]
      cases (off.tmod (bytesM ty) == 0) <;> simp [openHd_v, openBool_v, splitB_f, splitG_v] <;> exact exB _ _
    · simp [h2, openHd_v, openBool_v]; exact exB _ _

/-! slices.ContainsFunc, slices.Contains. -/
theorem weak_nums (l : List Int) : weak (nums l) = nums l := by
  simp only [nums, sl, weak, weakL_nums]
theorem weak_func (f : FuncId) (a c : List SV) : weak (.func f a c) = .func f a c := rfl
def quiet (S : St) : St := { S with floor := S.next }

theorem spec159 (l : List Int) (hl : l.length ≤ 1000000000) (p : Int → Bool) (g : FuncId) (a c : List SV) (S : St) (hf : ∀ x ∈ l, run kt (.func g a c) [.v (.int .i64 x)] (quiet S) = some (.v (.bool (p x)), quiet S)) :
    ∃ r, run kt (.func 159 [] []) [nums l, .func g a c] S = some (.v (.int .i64 r), S) ∧ decide (r ≥ 0) = l.any p := by
  suffices ∃ r, cBody (kt.at 159) h159 (run kt) (l.length + 1) (compF Tryz.f159) [nums l, .func g a c] (quiet S) = some (.v (.int .i64 r), quiet S) ∧ decide (r ≥ 0) = l.any p by
    obtain ⟨r, h1, h2⟩ := this
    refine ⟨r, ?_, h2⟩
    exact go_pure ks_kt (f := 159) (fst := []) (cap := []) (args := [nums l, .func g a c]) (S := S) h159 (l.length + 1) rfl (fn_kt 159 fn159) rfl (z := (.v (.int .i64 r), quiet S)) (by
      simp only [List.nil_append, List.append_nil, List.map_cons, List.map_nil, weak_nums, weak_func]
      exact h1)
  have e := tell159 (l.length + 1) l.length (l.flatMap (ic .i64)) g a c (quiet S)
  rw [show SV.sl none l.length (l.flatMap (ic .i64)) = nums l from rfl] at e
  rw [e]
  clear e
  simp only [splitB_dec]
  simp only [splitB_if]
  generalize hF : (fun vs0 S1 => _ : List SV → St → Option (Ex × List SV × St)) = F
  obtain ⟨j, hj⟩ := iter_any (F := F) l (fun i => [.v (.int .i64 0), .v (.int .i64 (i : Int))]) (quiet S) p (fun i => [.v (.int .i64 (i : Int)), .v (.int .i64 (i : Int))])
    (fun i h => by
      rw [← hF]
      simp only [openHd_v, openBool_v, openInt_v]
      rw [if_pos (by omega), index_nums (P_kt 159) .i64 l i h]
      simp only [Option.bind_some, load_cp (P_kt 159), openInt_v, hf _ (List.getElem_mem h), openBool_v]
      rw [wrap_in (by omega) (by omega)]
      rfl)
    (by
      rw [← hF]
      simp only [openHd_v, openBool_v, openInt_v]
      rw [if_neg (by omega)]) (M := l.length + 1) (by omega)
  have hj : iter F (l.length + 1) [.v (.int .i64 0), .v (.int .i64 0)] (quiet S) = _ := hj
  rw [hj]
  cases l.any p with
  | true => exact ⟨j, rfl, by simp⟩
  | false => exact ⟨-1, rfl, rfl⟩

theorem spec109 (l : List Int) (hl : l.length ≤ 1000000000) (p : Int → Bool) (g : FuncId) (a c : List SV) (S : St) (hf : ∀ x ∈ l, run kt (.func g a c) [.v (.int .i64 x)] (quiet (quiet S)) = some (.v (.bool (p x)), quiet (quiet S))) :
    run kt (.func 109 [] []) [nums l, .func g a c] S = some (.v (.bool (l.any p)), S) := by
  obtain ⟨r, h1, h2⟩ := spec159 l hl p g a c (quiet S) hf
  exact go_pure ks_kt (f := 109) (fst := []) (cap := []) (args := [nums l, .func g a c]) (S := S) h109 0 rfl (fn_kt 109 fn109) rfl (z := (.v (.bool (l.any p)), quiet S)) (by
    simp only [List.nil_append, List.append_nil, List.map_cons, List.map_nil, weak_nums, weak_func]
    have e := tell109 0 l.length (l.flatMap (ic .i64)) g a c (quiet S)
    rw [show SV.sl none l.length (l.flatMap (ic .i64)) = nums l from rfl] at e
    refine e.trans ?_
    rw [h1]
    simp only [Option.bind_some, openInt_v, h2])

theorem weak_spans (l : List Span) : weak (spanl l) = spanl l := (sl_ws pc pc_clean l).2
theorem spec160 (l : List Span) (hl : l.length ≤ 1000000000) (p : Span → Bool) (g : FuncId) (a c : List SV) (S : St) (hf : ∀ x ∈ l, run kt (.func g a c) [.agg x.t108.enc] (quiet S) = some (.v (.bool (p x)), quiet S)) :
    ∃ r, run kt (.func 160 [] []) [spanl l, .func g a c] S = some (.v (.int .i64 r), S) ∧ decide (r ≥ 0) = l.any p := by
  suffices ∃ r, cBody (kt.at 160) h160 (run kt) (l.length + 1) (compF Tryz.f160) [spanl l, .func g a c] (quiet S) = some (.v (.int .i64 r), quiet S) ∧ decide (r ≥ 0) = l.any p by
    obtain ⟨r, h1, h2⟩ := this
    refine ⟨r, ?_, h2⟩
    exact go_pure ks_kt (f := 160) (fst := []) (cap := []) (args := [spanl l, .func g a c]) (S := S) h160 (l.length + 1) rfl (fn_kt 160 fn160) rfl (z := (.v (.int .i64 r), quiet S)) (by
      simp only [List.nil_append, List.append_nil, List.map_cons, List.map_nil, weak_spans, weak_func]
      exact h1)
  have e := tell160 (l.length + 1) l.length (l.flatMap pc) g a c (quiet S)
  rw [show SV.sl none l.length (l.flatMap pc) = spanl l from rfl] at e
  rw [e]
  clear e
  simp only [splitB_dec]
  simp only [splitB_if]
  generalize hF : (fun vs0 S1 => _ : List SV → St → Option (Ex × List SV × St)) = F
  obtain ⟨j, hj⟩ := iter_any (F := F) l (fun i => [.v (.int .i64 0), .v (.int .i64 (i : Int))]) (quiet S) p (fun i => [.v (.int .i64 (i : Int)), .v (.int .i64 (i : Int))])
    (fun i h => by
      rw [← hF]
      simp only [openHd_v, openBool_v, openInt_v]
      rw [if_pos (by omega), index_spans (P_kt 160) .i64 l i h]
      simp only [Option.bind_some, openCp108', hf _ (List.getElem_mem h), openBool_v]
      rw [wrap_in (by omega) (by omega)]
      rfl)
    (by
      rw [← hF]
      simp only [openHd_v, openBool_v, openInt_v]
      rw [if_neg (by omega)]) (M := l.length + 1) (by omega)
  have hj : iter F (l.length + 1) [.v (.int .i64 0), .v (.int .i64 0)] (quiet S) = _ := hj
  rw [hj]
  cases l.any p with
  | true => exact ⟨j, rfl, by simp⟩
  | false => exact ⟨-1, rfl, rfl⟩

theorem spec112 (l : List Span) (hl : l.length ≤ 1000000000) (p : Span → Bool) (g : FuncId) (a c : List SV) (S : St) (hf : ∀ x ∈ l, run kt (.func g a c) [.agg x.t108.enc] (quiet (quiet S)) = some (.v (.bool (p x)), quiet (quiet S))) :
    run kt (.func 112 [] []) [spanl l, .func g a c] S = some (.v (.bool (l.any p)), S) := by
  obtain ⟨r, h1, h2⟩ := spec160 l hl p g a c (quiet S) hf
  exact go_pure ks_kt (f := 112) (fst := []) (cap := []) (args := [spanl l, .func g a c]) (S := S) h112 0 rfl (fn_kt 112 fn112) rfl (z := (.v (.bool (l.any p)), quiet S)) (by
    simp only [List.nil_append, List.append_nil, List.map_cons, List.map_nil, weak_spans, weak_func]
    have e := tell112 0 l.length (l.flatMap pc) g a c (quiet S)
    rw [show SV.sl none l.length (l.flatMap pc) = spanl l from rfl] at e
    refine e.trans ?_
    rw [h1]
    simp only [Option.bind_some, openInt_v, h2])

theorem spec110 (x : Int) (S : St) : run kt (.func 110 [] []) [.v (.int .i64 x)] S = some (.v (.bool (bytesM x == 0)), S) := by
  refine closed_bool h110 0 rfl (fn_kt 110 fn110) rfl ?_
  simp only [List.map_cons, List.map_nil, int_ws]
  rw [tell110]
  simp only [spec111, Option.bind_some, openInt_v]
  exact exB _ _
theorem span_ws (s : Span) : weak (shut (.agg s.t108.enc)) = .agg s.t108.enc := rfl
def badSpan (s : Span) : Bool := decide (s.n < 1) || decide (s.n > 65536)
theorem spec113 (s : Span) (S : St) : run kt (.func 113 [] []) [.agg s.t108.enc] S = some (.v (.bool (badSpan s)), S) := by
  refine closed_bool h113 0 rfl (fn_kt 113 fn113) rfl ?_
  simp only [List.map_cons, List.map_nil, span_ws]
  rw [tell113]
  simp only [splitB_if, mlb, Option.bind_some, openHd_v, openBool_v, ite_or]
  exact exB _ _
theorem spec167 (x : Int) (S : St) : run kt (.func 167 [] []) [.v (.int .i64 x)] S = some (.v (.bool (x != 32)), S) := by
  refine closed_bool h167 0 rfl (fn_kt 167 fn167) rfl ?_
  simp only [List.map_cons, List.map_nil, int_ws]
  rw [tell167]; exact exB _ _
theorem spec168 (x : Int) (S : St) : run kt (.func 168 [] []) [.v (.int .i64 x)] S = some (.v (.bool (x != 32)), S) := by
  refine closed_bool h168 0 rfl (fn_kt 168 fn168) rfl ?_
  simp only [List.map_cons, List.map_nil, int_ws]
  rw [tell168]; exact exB _ _
theorem spec199 (x : Int) (S : St) : run kt (.func 199 [] []) [.v (.int .i64 x)] S = some (.v (.bool (x != 32)), S) := by
  refine closed_bool h199 0 rfl (fn_kt 199 fn199) rfl ?_
  simp only [List.map_cons, List.map_nil, int_ws]
  rw [tell199]; exact exB _ _

theorem spec202 (l : List Int) (hl : l.length ≤ 1000000000) (v : Int) (S : St) : ∃ r, run kt (.func 202 [] []) [nums l, .v (.int .i64 v)] S = some (.v (.int .i64 r), S) ∧ decide (r ≥ 0) = l.contains v := by
  suffices ∃ r, cBody (kt.at 202) h202 (run kt) (l.length + 1) (compF Tryz.f202) [nums l, .v (.int .i64 v)] St0 = some (.v (.int .i64 r), St0) ∧ decide (r ≥ 0) = l.any (fun x => v == x) by
    obtain ⟨r, h1, h2⟩ := this
    refine ⟨r, ?_, by rw [h2, List.any_beq]⟩
    exact go_closed ks_kt (f := 202) (fst := []) (cap := []) (args := [nums l, .v (.int .i64 v)]) (S := S) h202 (l.length + 1) rfl (fn_kt 202 fn202) rfl (z := (.v (.int .i64 r), St0)) (by
      simp only [List.nil_append, List.append_nil, List.map_cons, List.map_nil, nums_ws, int_ws]
      exact h1)
  have e := tell202 (l.length + 1) l.length (l.flatMap (ic .i64)) v
  rw [show SV.sl none l.length (l.flatMap (ic .i64)) = nums l from rfl] at e
  rw [e]
  clear e
  simp only [splitB_dec]
  simp only [splitB_if]
  generalize hF : (fun vs0 S1 => _ : List SV → St → Option (Ex × List SV × St)) = F
  obtain ⟨j, hj⟩ := iter_any (F := F) l (fun i => [.v (.int .i64 0), .v (.int .i64 (i : Int))]) St0 (fun x => v == x) (fun i => [.v (.int .i64 (i : Int)), .v (.int .i64 (i : Int))])
    (fun i h => by
      rw [← hF]
      simp only [openHd_v, openBool_v, openInt_v]
      rw [if_pos (by omega), index_nums (P_kt 202) .i64 l i h]
      simp only [Option.bind_some, load_cp (P_kt 202), openInt_v]
      rw [wrap_in (by omega) (by omega)]
      rfl)
    (by
      rw [← hF]
      simp only [openHd_v, openBool_v, openInt_v]
      rw [if_neg (by omega)]) (M := l.length + 1) (by omega)
  have hj : iter F (l.length + 1) [.v (.int .i64 0), .v (.int .i64 0)] St0 = _ := hj
  rw [hj]
  cases l.any (fun x => v == x) with
  | true => exact ⟨j, rfl, by simp⟩
  | false => exact ⟨-1, rfl, rfl⟩

theorem spec162 (l : List Int) (hl : l.length ≤ 1000000000) (v : Int) (S : St) : run kt (.func 162 [] []) [nums l, .v (.int .i64 v)] S = some (.v (.bool (l.contains v)), S) := by
  refine closed_bool h162 0 rfl (fn_kt 162 fn162) rfl ?_
  simp only [List.map_cons, List.map_nil, int_ws, nums_ws]
  obtain ⟨r, h1, h2⟩ := spec202 l hl v St0
  have e := tell162 0 l.length (l.flatMap (ic .i64)) v
  rw [show SV.sl none l.length (l.flatMap (ic .i64)) = nums l from rfl] at e
  rw [e, h1]
  simp only [Option.bind_some, openInt_v, h2]
  exact exB _ _
end Go.Sv
end
section
namespace Go.Sv
open Go Go.Proofs Go.Proofs.YtkflapebfmcmaaaGreat
set_option linter.all false
set_option maxRecDepth 100000

/-! More tools: loops whose rounds make boxes of their own. -/
theorem get_new (S : St) (o : SObj) (b : Nat) (h : b < S.next) : (S.alloc o).get b = S.get b := by
  have : b ≠ S.next := by omega
  simp [St.alloc, this]
theorem get_put (S : St) (o : SObj) (b c : Nat) (h : b ≠ c) : (S.put c o).get b = S.get b := by simp [St.put, h]

theorem acc_keep {sz n : Nat} {cs : List SV} {y : SV} {S S' : St} (h : Acc sz n cs y S) (hf : S'.floor = S.floor) (hn : S.next ≤ S'.next) (hg : ∀ b, b < S.next → S'.get b = S.get b) : Acc sz n cs y S' := by
  obtain ⟨h0, h⟩ := h
  refine ⟨by omega, ?_⟩
  rcases h with h | ⟨b, h1, h2, h3, h4, h5⟩
  · exact .inl h
  · exact .inr ⟨b, h1, by rw [hg b h3, h2], by omega, by omega, h5⟩

/-- A fresh box that is written. -/
def boxed (S : St) (z : SObj) (o : SObj) : St := (S.alloc z).put S.next o
theorem boxed_next (S : St) (z o : SObj) : (boxed S z o).next = S.next + 1 := rfl
theorem boxed_get (S : St) (z o : SObj) (b : Nat) (h : b < S.next) : (boxed S z o).get b = S.get b := by
  unfold boxed
  rw [get_put _ _ _ _ (by omega), get_new _ _ _ h]
theorem boxed_self (S : St) (z o : SObj) : (boxed S z o).get S.next = o := by simp [boxed, St.put]
theorem acc_boxed {sz n : Nat} {cs : List SV} {y : SV} {S : St} (h : Acc sz n cs y S) (z o : SObj) : Acc sz n cs y (boxed S z o) :=
  acc_keep h rfl (by rw [boxed_next]; omega) fun b hb => boxed_get S z o b hb

/-- A loop that appends what it makes of each element; its rounds may make boxes of their own. -/
theorem iter_map2 {α : Type} {F : List SV → St → Option (Ex × List SV × St)} {k : K} {t e : TypeId} {sz by_ : Nat} {z : List SV} (he : elem? k t = some e) (hs : size? k e = some sz) (hb : bytes? k e = some by_) (hz : zero? k e = some z) (h0 : sz ≠ 0) (h1 : by_ ≠ 0) (h2 : z.length = sz) (hbx : k.inBox e ≠ 1)
    (l : List α) (g : α → List SV) (hg : ∀ x ∈ l, (g x).length = sz) (hr : l.length * by_ ≤ room) (vs : SV → Nat → List SV) (fl : Nat)
    (hstep : ∀ i (h : i < l.length) y S, S.floor = fl → Acc sz i ((l.take i).flatMap g) y S → ∃ S1, S1.floor = fl ∧ Acc sz i ((l.take i).flatMap g) y S1 ∧ F (vs y i) S = (appendE k t y (.sl (some S1.next) 1 (g l[i])) (S1.alloc (.own sz sz))).bind fun p => some (.normal, vs p.1 (i + 1), p.2))
    (hend : ∀ y S, S.floor = fl → Acc sz l.length (l.flatMap g) y S → F (vs y l.length) S = some (.exit 0, vs y l.length, S)) :
    ∀ (suf : List α) (i : Nat), l.drop i = suf → i ≤ l.length → ∀ (y : SV) (S : St) (M : Nat), S.floor = fl → Acc sz i ((l.take i).flatMap g) y S → suf.length < M →
      ∃ y' S', iter F M (vs y i) S = some (.exit 0, vs y' l.length, S') ∧ Acc sz l.length (l.flatMap g) y' S' ∧ S'.floor = fl
  | [], i, hd, hi, y, S, M, hf, hA, hM => by
    obtain ⟨M, rfl⟩ : ∃ m, M = m + 1 := ⟨M - 1, by have : 0 < M := hM; omega⟩
    have : l.length ≤ i := by
      have := congrArg List.length hd
      simp at this
      omega
    have e : i = l.length := by omega
    subst e
    rw [List.take_length] at hA
    exact ⟨y, S, iter_exit (hend y S hf hA), hA, hf⟩
  | x :: r, i, hd, hi, y, S, M, hf, hA, hM => by
    obtain ⟨M, rfl⟩ : ∃ m, M = m + 1 := ⟨M - 1, by rw [List.length_cons] at hM; omega⟩
    have hlt : i < l.length := by
      have := congrArg List.length hd
      simp at this
      omega
    have hdr : l.drop (i + 1) = r := by
      have := congrArg List.tail hd
      simpa using this
    obtain ⟨S1, hf1, hA1, hst⟩ := hstep i hlt y S hf hA
    obtain ⟨y', S', h3, h4, h5, h6⟩ := append_acc he hs hb hz h0 h1 h2 hbx hA1 (hg l[i] (List.getElem_mem hlt)) (Nat.le_trans (Nat.mul_le_mul_right _ hlt) hr)
    rw [h3, Option.bind_some] at hst
    have h4' : Acc sz (i + 1) ((l.take (i + 1)).flatMap g) y' S' := by
      rw [List.take_succ_eq_append_getElem hlt, List.flatMap_append]
      simpa using h4
    obtain ⟨y2, S2, h7, h8, h9⟩ := iter_map2 he hs hb hz h0 h1 h2 hbx l g hg hr vs fl hstep hend r (i + 1) hdr hlt y' S' M (h5.trans hf1) h4' (by simpa using hM)
    exact ⟨y2, S2, by rw [iter_normal hst]; exact h7, h8, h9⟩

/-- Store into a fresh box and read back. -/
theorem store_box {Z : Type} {k : K} {t sz : Nat} (hs : size? k t = some sz) (h1 : sz ≠ 1) {S : St} (hf : S.floor ≤ S.next) {zs ys : List SV} (hz : zs.length = sz) (hy : ys.length = sz) (K : St → Option Z) :
    storeK k t (.ptr S.next 0) (.agg ys) (S.alloc (.cells zs)) K = K (boxed S (.cells zs) (.cells ys)) := by
  have hsp : splice zs 0 ys = ys := by simp [splice, hz, hy]
  simp only [storeK, hs, Option.bind_some, cellsK, if_neg h1, if_pos hy]
  have : (S.alloc (SObj.cells zs)).floor ≤ S.next := hf
  rw [if_pos this]
  have hg : (S.alloc (SObj.cells zs)).get S.next = .cells zs := by simp [St.alloc]
  rw [hg]
  simp only
  rw [if_pos (by omega), hsp]
  rfl
theorem load_box {k : K} {t sz : Nat} (ha : agg? k t = some true) (hs : size? k t = some sz) {S : St} {z : SObj} {ys : List SV} (hy : ys.length = sz) : loadE k t (.ptr S.next 0) (boxed S z (.cells ys)) = some (.agg ys) := by
  simp only [loadE, ha, hs, Option.bind_some, boxed_self, objCells, takeVal, List.drop_zero, if_true]
  rw [if_pos (by omega), ← hy, List.take_length]
theorem agg_st {k : K} (hP : k.P = Tryz.prog) {t : TypeId} {fs : Array Field} (h : Tryz.prog.underlying t = some (.struct fs)) : agg? k t = some true := by
  unfold agg?; rw [hP, h]
end Go.Sv
end
section
namespace Go.Sv
open Go Go.Proofs Go.Proofs.YtkflapebfmcmaaaGreat
set_option linter.all false
set_option maxRecDepth 100000

/-- The first word of an atom's constant is one of 32 bits. -/
def Atom.ok (a : Atom) : Prop := 0 ≤ a.c0 ∧ a.c0 ≤ 4294967295
theorem fdiv_ne (c n : Int) (h : 0 ≤ c) (hn : 0 < n) : (c.fdiv n != 0) = !decide (c < n) := by
  rw [Int.fdiv_eq_ediv_of_nonneg _ (by omega)]
  by_cases hc : c < n
  · simp [Int.ediv_eq_zero_of_lt h hc, hc]
  · have : c / n ≠ 0 := by
      intro e
      have h1 := Int.emod_add_mul_ediv c n
      rw [e] at h1
      have h2 := Int.emod_lt_of_pos c hn
      simp at h1
      omega
    simp [hc, this]

theorem shr_ne {k : K} (c t : Int) (h0 : 0 ≤ t) (h1 : t ≤ 64) : ((binE k .shr 199 (.v (.int .u64 c)) (.v (.int .i64 t))).bind fun r => (binE k .neq 199 r (.v (.int .u64 0))).bind fun r => some [r]) = some [.v (.bool (c.fdiv (2 ^ t.toNat) != 0))] := by
  have : min t.toNat 64 = t.toNat := by omega
  have h3 : ¬ t < 0 := by omega
  simp [binE, shrE, intBin, IntKind.bits, this, h3]

theorem bytes_or {t : Int} (h : bytesM t ≠ 0) : t = 1 ∨ t = 8 ∨ t = 16 ∨ t = 32 ∨ t = 128 := by
  unfold bytesM at h
  simp only [beq_iff_eq] at h
  omega

theorem spec119 (l : List Int) (a : Atom) (ha : a.ok) (S : St) : run kt (.func 119 [] []) [nums l, .agg a.t28.enc] S = some (.v (.int .i64 (atomTy l a)), S) := by
  refine closed_int h119 0 rfl (fn_kt 119 fn119) rfl ?_
  simp only [List.map_cons, List.map_nil, nums_ws, atom_ws]
  have e := tell119 0 l.length (l.flatMap (ic .i64)) a.t28
  rw [show SV.sl none l.length (l.flatMap (ic .i64)) = nums l from rfl] at e
  rw [e]
  clear e
  simp only [splitB_dec]
  obtain ⟨tmp, ty, c0, c1, c2, c3⟩ := a
  simp only [Atom.t28]
  by_cases hp : tmp ≥ 0
  · simp only [hp, if_true]
    have hm : (tmp == -1) = false := by simp; omega
    unfold atomTy
    simp only [hm, Bool.false_eq_true, if_false]
    by_cases hl : tmp.toNat < l.length
    · have hge : ¬ tmp ≥ (l.length : Int) := by omega
      have i1 := index_nums (P_kt 119) .i64 l tmp.toNat hl
      rw [Int.toNat_of_nonneg hp] at i1
      rw [dif_pos ⟨hp, hl⟩]
      simp only [hge, if_false, i1, Option.bind_some, load_cp (P_kt 119), openInt_v, spec111, splitB_if, mlb, openHd_v, openBool_v, ite_or, Bool.and_true]
      simp only [mi]
      rw [Bool.or_assoc, Bool.and_assoc, Bool.and_assoc]
      exact exI _ _
    · have hge : tmp ≥ (l.length : Int) := by omega
      rw [dif_neg (by omega)]
      simp only [hge, if_true, Option.bind_some, openHd_v, openBool_v, splitB_if, if_true]
      exact exI _ _
  · simp only [hp, if_false]
    unfold atomTy
    by_cases hm : tmp = -1
    · subst hm
      have e1 : ((-1 : Int) != -1) = false := rfl
      have e2 : ((-1 : Int) == -1) = true := rfl
      simp only [e1, e2, spec111, Option.bind_some, openInt_v, splitB_if, Bool.false_eq_true, if_false, if_true]
      have hw : IntKind.wrap .u64 c0 = c0 := IntWalk.u64_in c0 ⟨ha.1, by have := ha.2; simp only at this; omega⟩
      have hc0 : 0 ≤ c0 := ha.1
      have hc1 : c0 ≤ 4294967295 := ha.2
      rw [hw]
      by_cases hb : bytesM ty = 0
      · simp only [hb, beq_self_eq_true, if_true, Option.bind_some, openHd_v, openBool_v]
        have : (if fitsM ty c0 c1 c2 c3 = true then ty else 0) = 0 := by
          have hx : fitsM ty c0 c1 c2 c3 = false := by
            have h1 : ¬ ty = 1 := by intro e; subst e; simp [bytesM] at hb
            have h2 : ¬ ty = 8 := by intro e; subst e; simp [bytesM] at hb
            have h3 : ¬ ty = 16 := by intro e; subst e; simp [bytesM] at hb
            unfold fitsM
            simp [h1, h2, h3, hb]
          rw [hx]; rfl
        rw [this]
        exact exI _ _
      · have hb' : (bytesM ty == 0) = false := by simpa using hb
        simp only [hb', Bool.false_eq_true, if_false]
        rcases bytes_or hb with rfl | rfl | rfl | rfl | rfl
        · rw [shr_ne c0 1 (by decide) (by decide)]
          rw [show ((2 : Int) ^ (1 : Int).toNat) = 2 from rfl, fdiv_ne _ _ hc0 (by decide)]
          simp only [show ((1 : Int) < 128) from by decide, if_true]
          unfold fitsM
          cases (c1 != 0) <;> cases (c2 != 0) <;> cases (c3 != 0) <;> cases h : decide (c0 < 2) <;> simp [openHd_v, openBool_v] <;> exact exI _ _
        · rw [shr_ne c0 8 (by decide) (by decide)]
          rw [show ((2 : Int) ^ (8 : Int).toNat) = 256 from rfl, fdiv_ne _ _ hc0 (by decide)]
          simp only [show ((8 : Int) < 128) from by decide, if_true]
          unfold fitsM
          cases (c1 != 0) <;> cases (c2 != 0) <;> cases (c3 != 0) <;> cases h : decide (c0 < 256) <;> simp [openHd_v, openBool_v] <;> exact exI _ _
        · rw [shr_ne c0 16 (by decide) (by decide)]
          rw [show ((2 : Int) ^ (16 : Int).toNat) = 65536 from rfl, fdiv_ne _ _ hc0 (by decide)]
          simp only [show ((16 : Int) < 128) from by decide, if_true]
          unfold fitsM
          cases (c1 != 0) <;> cases (c2 != 0) <;> cases (c3 != 0) <;> cases h : decide (c0 < 65536) <;> simp [openHd_v, openBool_v] <;> exact exI _ _
        · rw [shr_ne c0 32 (by decide) (by decide)]
          rw [show ((2 : Int) ^ (32 : Int).toNat) = 4294967296 from rfl, fdiv_ne _ _ hc0 (by decide)]
          simp only [show ((32 : Int) < 128) from by decide, if_true]
          have hd : decide (c0 < 4294967296) = true := by simp; omega
          rw [hd]
          unfold fitsM bytesM
          cases (c1 != 0) <;> cases (c2 != 0) <;> cases (c3 != 0) <;> simp [openHd_v, openBool_v] <;> exact exI _ _
        · simp only [show ¬ ((128 : Int) < 128) from by decide, if_false]
          exact exI _ _
    · have e1 : (tmp != -1) = true := by simpa using hm
      have e2 : (tmp == -1) = false := by simpa using hm
      simp only [e1, e2, splitB_if, if_true, Option.bind_some, openHd_v, openBool_v, Bool.false_eq_true, if_false]
      rw [dif_neg (by omega)]
      exact exI _ _

theorem load22 {k : K} (hP : k.P = Tryz.prog) (x : SV) (S : St) : loadE k 22 (.cp [x]) S = some x := by
  have h1 : agg? k 22 = some false := by unfold agg?; rw [hP, Tryz.underlying22]
  have h2 : size? k 22 = some 1 := size_of hP (by kernel_rfl)
  simp only [loadE, h1, h2, Option.bind_some, takeVal]; rfl

theorem nums_shut (l : List Int) : shut (nums l) = nums l ∧ weak (nums l) = nums l := ⟨by simp only [nums, sl, shut, shutL_nums], weak_nums l⟩
theorem spec201 (l : List Int) (a : Atom) (ha : a.ok) (S : St) : run kt (.func 201 [] [.cp [nums l]]) [.agg a.t28.enc] S = some (.v (.int .i64 (atomTy l a)), S) := by
  have hcp : weak (shut (.cp [nums l])) = .cp [nums l] := by simp [shut, shutL, weak, weakL, (nums_shut l).1, (nums_shut l).2]
  exact go_closed ks_kt (f := 201) (fst := []) (cap := [.cp [nums l]]) (args := [.agg a.t28.enc]) (S := S) h201 0 rfl (fn_kt 201 fn201) rfl (z := (.v (.int .i64 (atomTy l a)), St0)) (by
    simp only [List.nil_append, List.cons_append, List.map_cons, List.map_nil, atom_ws, hcp]
    rw [tell201, load22 (P_kt 201)]
    simp only [Option.bind_some, spec119 l a ha, openInt_v])

theorem bytes200 : bytes? (kt.at 200) 3 = some 8 := by kernel_rfl
theorem zero200 : zero? (kt.at 200) 3 = some [.v (.int .i64 0)] := by kernel_rfl
theorem mapped_ints (xs : List Atom) (hl : xs.length ≤ 1000000) (g : FuncId) (c : List SV) (f : Atom → Int) (hc : shutL c = c) (hf : ∀ x ∈ xs, ∀ S, run kt (.func g [] c) [.agg x.t28.enc] S = some (.v (.int .i64 (f x)), S)) (S : St) :
    run kt (.func 200 [] []) [atoms xs, .func g [] c] S = some (nums (xs.map f), S) := by
  have hws : weak (shut (.func g [] c)) = .func g [] c := by
    simp only [shut, weak, shutL, hc]
  suffices ∃ y S2, cBody (kt.at 200) h200 (run kt) (xs.length + 1) (compF Tryz.f200) [atoms xs, .func g [] c] St0 = some (y, S2) ∧ erase S2 y = nums (xs.map f) by
    obtain ⟨y, S2, h1, h2⟩ := this
    have := go_closed ks_kt (f := 200) (fst := []) (cap := []) (args := [atoms xs, .func g [] c]) (S := S) h200 (xs.length + 1) rfl (fn_kt 200 fn200) rfl (z := (y, S2)) (by
      simp only [List.nil_append, List.append_nil, List.map_cons, List.map_nil, atoms_ws, hws]
      exact h1)
    rw [h2] at this
    exact this
  have e := tell200 (xs.length + 1) xs.length (xs.flatMap ac) g [] c
  rw [show SV.sl none xs.length (xs.flatMap ac) = atoms xs from rfl] at e
  rw [e]
  clear e
  simp only [splitB_dec]
  have hs28 : size? (kt.at 200) 28 = some 6 := size_of (P_kt 200) size28'
  generalize hF : (fun vs0 S1 => _ : List SV → St → Option (Ex × List SV × St)) = F
  obtain ⟨y, S2, h1, h2, h3⟩ := iter_map2 (F := F) (k := kt.at 200) (t := 22) (e := 3) (sz := 1) (elem_of (P_kt 200) Tryz.underlying22) (size_of (P_kt 200) size3) bytes200 zero200 (by decide) (by decide) rfl (by decide)
    xs (fun a => ic .i64 (f a)) (fun _ _ => rfl) (by simp only [room]; omega) (fun y i => [y, .v (.int .i64 (i : Int))]) 0
    (fun i h y S hf' hA => by
      refine ⟨boxed S (.cells [(.v (.int .i64 (0 : Int))), (.v (.int .i64 (0 : Int))), (.v (.int .u32 (0 : Int))), (.v (.int .u32 (0 : Int))), (.v (.int .u32 (0 : Int))), (.v (.int .u32 (0 : Int)))]) (.cells xs[i].t28.enc), hf', acc_boxed hA _ _, ?_⟩
      rw [← hF]
      simp only [openHd_v, openBool_v, openInt_v]
      rw [if_pos (by omega), index_atoms (P_kt 200) .i64 xs i h]
      simp only [Option.bind_some, openCp28']
      rw [store_box hs28 (by decide) hA.1 rfl rfl, load_box (agg_st (P_kt 200) Tryz.underlying28) hs28 rfl]
      simp only [Option.bind_some, openAgg28]
      rw [hf _ (List.getElem_mem h)]
      simp only [Option.bind_some, openInt_v]
      rw [wrap_in (by omega) (by omega)]
      rfl)
    (fun y S hf hA => by
      rw [← hF]
      simp only [openHd_v, openBool_v, openInt_v]
      rw [if_neg (by omega)]) xs 0 rfl (by omega) (.v (.slice none 0 0)) St0 (xs.length + 1) rfl (acc0 1 (by decide)) (by omega)
  have h1 : iter F (xs.length + 1) [.v (.slice none 0 0), .v (.int .i64 0)] St0 = _ := h1
  rw [h1]
  refine ⟨y, S2, rfl, ?_⟩
  rw [acc_erase h2]
  have : (xs.flatMap fun a => ic .i64 (f a)) = (xs.map f).flatMap (ic .i64) := by simp [List.flatMap_map]
  rw [this, eraseL_nums]
  simp [nums, sl]

theorem spec161 (l : List Int) (xs : List Atom) (hx : ∀ a ∈ xs, a.ok) (hl : xs.length ≤ 1000000) (S : St) : run kt (.func 161 [] []) [nums l, atoms xs] S = some (nums (typesM l xs), S) := by
  have hcp : weak (shut (.cp [nums l])) = .cp [nums l] := by simp [shut, shutL, weak, weakL, (nums_shut l).1, (nums_shut l).2]
  have := go_closed ks_kt (f := 161) (fst := []) (cap := []) (args := [nums l, atoms xs]) (S := S) h161 0 rfl (fn_kt 161 fn161) rfl (z := (nums (typesM l xs), St0)) (by
    simp only [List.nil_append, List.append_nil, List.map_cons, List.map_nil, nums_ws, atoms_ws]
    have e := tell161 0 l.length (l.flatMap (ic .i64)) xs.length (xs.flatMap ac)
    refine e.trans ?_
    rw [show SV.sl none xs.length (xs.flatMap ac) = atoms xs from rfl, show SV.sl none l.length (l.flatMap (ic .i64)) = nums l from rfl]
    rw [mapped_ints xs hl 201 [.cp [nums l]] (atomTy l) (by simp only [shutL, shut, (nums_shut l).1]) (fun x h S => spec201 l x (hx x h) S)]
    rfl)
  simp only [nums_erase] at this
  exact this
end Go.Sv
end
