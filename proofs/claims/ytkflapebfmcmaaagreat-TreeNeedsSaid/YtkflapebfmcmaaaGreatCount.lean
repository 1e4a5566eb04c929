/- A part of the proofs of this seat's laws: an interpreter of the program's form, its soundness against the model, or what it answers on this program. -/
import Derived.Test.YtkflapebfmcmaaaGreatToldNeeds
namespace Go.Sv
open Go Go.Proofs Go.Proofs.YtkflapebfmcmaaaGreat
set_option linter.all false
set_option maxRecDepth 100000

section
variable {P : Tree → Prop}
mutual
theorem Tree.ind (h : ∀ a k ty op off l, (∀ t ∈ l, P t) → P (.mk a k ty op off l)) : ∀ t, P t
  | .mk a k ty op off l => h a k ty op off l (Tree.indL h l)
theorem Tree.indL (h : ∀ a k ty op off l, (∀ t ∈ l, P t) → P (.mk a k ty op off l)) : ∀ (l : List Tree), ∀ t ∈ l, P t
  | [], _, ht => by cases ht
  | x :: r, t, ht => by
    rcases List.mem_cons.1 ht with e | ht
    · rw [e]; exact Tree.ind h x
    · exact Tree.indL h r t ht
end
end

theorem shutL_append (a b : List SV) : shutL (a ++ b) = shutL a ++ shutL b := by simp [shutL_map]
theorem weakL_append (a b : List SV) : weakL (a ++ b) = weakL a ++ weakL b := by simp [weakL_map]

/-- Nothing of a tree hangs on the state. -/
theorem tree_clean : ∀ t : Tree, shutL t.cells = t.cells ∧ weakL t.cells = t.cells := by
  apply Tree.ind
  intro a k ty op off l ih
  have hl : shutL (cellsT l) = cellsT l ∧ weakL (cellsT l) = cellsT l := by
    induction l with
    | nil => simp [cellsT, shutL, weakL]
    | cons t r ihr =>
      have h1 := ih t (by simp)
      have h2 := ihr (fun t ht => ih t (by simp [ht]))
      simp only [cellsT, shutL_append, weakL_append, h2.1, h2.2]
      have := h1.1
      have := h1.2
      unfold Tree.cells at *
      simp_all
  simp [Tree.cells, Tree.t37, T37.enc, shutL, shut, weakL, weak, weakV, hl.1, hl.2]

theorem tree_ws (t : Tree) : weak (shut (.agg t.cells)) = .agg t.cells := by
  simp [shut, weak, (tree_clean t).1, (tree_clean t).2]
theorem int_ws (q : IntKind) (a : Int) : weak (shut (.v (.int q a))) = .v (.int q a) := rfl

theorem fn_kt (f : FuncId) {c : CF} (h : fnsK f = some c) : kt.fns f = some c := h
theorem fn34 : fnsK 34 = some (compF Tryz.f34) := by kernel_rfl
theorem fn35 : fnsK 35 = some (compF Tryz.f35) := by kernel_rfl
theorem ks_kt : KS kt := ks_kk _ _

/-- IsLeaf. -/
theorem leaf_spec (t : Tree) (S : St) : run kt (.func 35 [] []) [.agg t.cells] S = some (.v (.bool (t.kind == 0)), S) := by
  have := go_closed ks_kt (f := 35) (fst := []) (cap := []) (args := [.agg t.cells]) (S := S) h35 0 rfl (fn_kt 35 fn35) rfl (z := (.v (.bool (t.kind == 0)), St0)) (by
    simp only [List.nil_append, List.append_nil, List.map_cons, List.map_nil, tree_ws]
    have := tell35 0 t.t37
    rw [t37_kind] at this
    exact this)
  exact this

mutual
def cntM : Tree → Int → Nat → Int
  | .mk _ _ _ _ _ _, most, 0 => most + 1
  | .mk _ _ _ _ _ l, most, d + 1 => cntL l most d 1
def cntL : List Tree → Int → Nat → Int → Int
  | [], _, _, n => n
  | t :: r, most, d, n => if n ≤ most then cntL r most d (n + cntM t (most - n) d) else n
end

theorem cntL_bound (l : List Tree) (h : ∀ t ∈ l, ∀ most d, 0 ≤ most → 1 ≤ cntM t most d ∧ cntM t most d ≤ most + 1) : ∀ most d n, 0 ≤ most → 1 ≤ n → n ≤ most + 1 → n ≤ cntL l most d n ∧ cntL l most d n ≤ most + 1 := by
  induction l with
  | nil => intro most d n h0 h1 h2; simp [cntL]; omega
  | cons t r ih =>
    intro most d n h0 h1 h2
    rw [cntL]
    split
    · have := h t (by simp) (most - n) d (by omega)
      have := ih (fun t ht => h t (by simp [ht])) most d (n + cntM t (most - n) d) h0 (by omega) (by omega)
      omega
    · omega

theorem cntM_bound : ∀ t most d, 0 ≤ most → 1 ≤ cntM t most d ∧ cntM t most d ≤ most + 1 := by
  apply Tree.ind (P := fun t => ∀ most d, 0 ≤ most → 1 ≤ cntM t most d ∧ cntM t most d ≤ most + 1)
  intro a k ty op off l ih most d h0
  cases d with
  | zero => simp [cntM]; omega
  | succ d =>
    rw [cntM]
    exact cntL_bound l ih most d 1 h0 (by omega) (by omega)

set_option maxHeartbeats 1000000 in
theorem count_spec : ∀ (t : Tree) (most : Int) (d : Nat) (S : St), 0 ≤ most → most ≤ 3000 → d ≤ 60 → run kt (.func 34 [] []) [.agg t.cells, .v (.int .i64 most), .v (.int .i64 (d : Int))] S = some (.v (.int .i64 (cntM t most d)), S) := by
  apply Tree.ind (P := fun t => ∀ (most : Int) (d : Nat) (S : St), 0 ≤ most → most ≤ 3000 → d ≤ 60 → run kt (.func 34 [] []) [.agg t.cells, .v (.int .i64 most), .v (.int .i64 (d : Int))] S = some (.v (.int .i64 (cntM t most d)), S))
  intro a k ty op off l ih most d S h0 h1 h2
  have go := go_closed ks_kt (f := 34) (fst := []) (cap := []) (args := [.agg (Tree.mk a k ty op off l).cells, .v (.int .i64 most), .v (.int .i64 (d : Int))]) (S := S) h34 4000 rfl (fn_kt 34 fn34) rfl (z := (.v (.int .i64 (cntM (.mk a k ty op off l) most d)), St0)) (by
    simp only [List.nil_append, List.append_nil, List.map_cons, List.map_nil, tree_ws, int_ws]
    have e := tell34 4000 (Tree.mk a k ty op off l).t37 most (d : Int)
    unfold Tree.cells
    rw [e]
    clear e
    simp only [splitB_if, t37_l, Tree.l]
    cases d with
    | zero => simp [cntM]; rw [wrap_in (by omega) (by omega)]
    | succ d =>
      rw [if_neg (by simp; omega)]
      refine abs_iter fun F hF => ?_
      have loop : ∀ (suf pre : List Tree), l = pre ++ suf → ∀ (n : Int) (M : Nat), 1 ≤ n → n ≤ most + 1 → (pre.length : Int) < n → most + 1 - n < M → ∃ j : Int,
          iter F M [.v (.int .i64 n), .v (.int .i64 (pre.length : Int))] St0 = some (.exit 0, [.v (.int .i64 (cntL suf most d n)), .v (.int .i64 j)], St0) := by
        intro suf
        induction suf with
        | nil =>
          intro pre hl n M g1 g2 g3 g4
          obtain ⟨M, rfl⟩ : ∃ m, M = m + 1 := ⟨M - 1, by omega⟩
          refine ⟨pre.length, iter_exit ?_⟩
          subst hl
          rw [hF]
          simp only [openHd_v, openInt_v, openBool_v, len_sl (P_kt 34) Tryz.underlying35, Option.bind_some, List.append_nil, cntL]
          simp [openHd_v, openBool_v]
        | cons t r ihs =>
          intro pre hl n M g1 g2 g3 g4
          obtain ⟨M, rfl⟩ : ∃ m, M = m + 1 := ⟨M - 1, by omega⟩
          have hlt : pre.length < l.length := by rw [hl]; simp
          have hget : l[pre.length] = t := by simp [hl]
          have hmem : t ∈ l := by rw [hl]; simp
          rw [cntL]
          by_cases hn : n ≤ most
          · rw [if_pos hn]
            have hb := cntM_bound t (most - n) d (by omega)
            rw [iter_normal (F := F) (vs' := [.v (.int .i64 (n + cntM t (most - n) d)), .v (.int .i64 ((pre.length : Int) + 1))]) (S' := St0) (by
              rw [hF]
              simp only [openHd_v, openInt_v, openBool_v, len_sl (P_kt 34) Tryz.underlying35, Option.bind_some]
              rw [if_pos (by simp; omega)]
              simp only [openHd_v, openBool_v, Option.bind_some]
              rw [if_pos (by simpa using hn), index_sl (P_kt 34) Tryz.underlying35 size37 Tree.cells Tree.cells_len l pre.length hlt, hget]
              simp only [Option.bind_some]
              rw [show openCp cd37 (.cp t.cells) = openCp cd37 (.cp t.t37.enc) from rfl, openCp37]
              rw [wrap_in (a := most - n) (by omega) (by omega), wrap_in (a := ((d + 1 : Nat) : Int) - 1) (by omega) (by omega), show ((d + 1 : Nat) : Int) - 1 = (d : Int) by omega]
              have hi := ih t hmem (most - n) d St0 (by omega) (by omega) (by omega)
              unfold Tree.cells at hi
              rw [hi]
              simp only [Option.bind_some, openInt_v]
              rw [wrap_in (a := n + cntM t (most - n) d) (by omega) (by omega), wrap_in (a := (pre.length : Int) + 1) (by omega) (by omega)])]
            have := ihs (pre ++ [t]) (by rw [hl]; simp) (n + cntM t (most - n) d) M (by omega) (by omega) (by simp; omega) (by omega)
            rw [List.length_append] at this
            exact this
          · rw [if_neg hn]
            refine ⟨pre.length, iter_exit ?_⟩
            rw [hF]
            simp only [openHd_v, openInt_v, openBool_v, len_sl (P_kt 34) Tryz.underlying35, Option.bind_some]
            rw [if_pos (by simp; omega)]
            simp only [openHd_v, openBool_v, Option.bind_some]
            rw [if_neg (by simpa using hn)]
      obtain ⟨j, hj⟩ := loop l [] rfl 1 4000 (by omega) (by omega) (by simp) (by omega)
      have hj' : iter F 4000 [.v (.int .i64 1), .v (.int .i64 0)] St0 = _ := hj
      rw [hj']
      simp only [Option.bind_some, openHd_v, openInt_v, exits_exit, if_true, cntM])
  exact go
end Go.Sv
