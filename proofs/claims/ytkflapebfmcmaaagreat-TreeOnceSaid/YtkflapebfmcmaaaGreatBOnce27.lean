/- Parts of the proofs of this seat's laws. -/
import Derived.Test.YtkflapebfmcmaaaGreatBOnce26
section
namespace Go.Sv
open Go Go.Proofs Go.Proofs.YtkflapebfmcmaaaGreat
set_option linter.all false
set_option maxRecDepth 100000

/-! The data of blocks. -/
def ac (a : Atom) : List SV := a.t28.enc
theorem ac_len (a : Atom) : (ac a).length = 6 := rfl
def atoms (l : List Atom) : SV := sl ac l
structure Expr where
  kind : Int
  ty : Int
  op : Int
  off : Int
  l : List Atom
deriving Inhabited
structure Stmt where
  kind : Int
  tmp : Int
  off : Int
  n : Int
  jump : Int
  addr : Int
  to_ : Int
  e : Expr
  l : List Atom
deriving Inhabited
structure Span where
  at_ : Int
  n : Int
deriving DecidableEq, Inhabited
structure Block where
  tmps : List Int
  l : List Stmt
  next : Atom
  jump : Int
  spans : List Span

def Expr.t55 (e : Expr) : T55 := ⟨e.kind, e.ty, e.op, e.off, atoms e.l⟩
def Stmt.t57 (s : Stmt) : T57 := ⟨s.kind, s.tmp, s.off, s.n, s.jump, s.addr, s.to_, s.e.kind, s.e.ty, s.e.op, s.e.off, atoms s.e.l, atoms s.l⟩
def sc (s : Stmt) : List SV := s.t57.enc
theorem sc_len (s : Stmt) : (sc s).length = 13 := rfl
def Span.t108 (s : Span) : T108 := ⟨s.at_, s.n⟩
def pc (s : Span) : List SV := s.t108.enc
theorem pc_len (s : Span) : (pc s).length = 2 := rfl
def stmts (l : List Stmt) : SV := sl sc l
def spanl (l : List Span) : SV := sl pc l
def Block.t31 (b : Block) : T31 := ⟨nums b.tmps, stmts b.l, b.next.tmp, b.next.ty, b.next.c0, b.next.c1, b.next.c2, b.next.c3, b.jump, spanl b.spans⟩

/-! Nothing of them hangs on the state. -/
theorem flat_clean {α : Type} (f : α → List SV) (h : ∀ x, shutL (f x) = f x ∧ weakL (f x) = f x) (l : List α) : shutL (l.flatMap f) = l.flatMap f ∧ weakL (l.flatMap f) = l.flatMap f := by
  induction l with
  | nil => exact ⟨rfl, rfl⟩
  | cons x r ih => simp only [List.flatMap_cons, shutL_append, weakL_append, (h x).1, (h x).2, ih.1, ih.2, and_self]
theorem ac_clean (a : Atom) : shutL (ac a) = ac a ∧ weakL (ac a) = ac a := ⟨rfl, rfl⟩
theorem pc_clean (a : Span) : shutL (pc a) = pc a ∧ weakL (pc a) = pc a := ⟨rfl, rfl⟩
theorem sl_ws {α : Type} (f : α → List SV) (h : ∀ x, shutL (f x) = f x ∧ weakL (f x) = f x) (l : List α) : shut (sl f l) = sl f l ∧ weak (sl f l) = sl f l := by
  simp only [sl, shut, weak, (flat_clean f h l).1, (flat_clean f h l).2, and_self]
theorem sc_clean (s : Stmt) : shutL (sc s) = sc s ∧ weakL (sc s) = sc s := by
  have h1 := sl_ws ac ac_clean s.e.l
  have h2 := sl_ws ac ac_clean s.l
  constructor
  · simp only [sc, T57.enc, Stmt.t57, shutL, shut, atoms, h1.1, h2.1]
  · simp only [sc, T57.enc, Stmt.t57, weakL, weak, weakV, atoms, h1.2, h2.2]
theorem atoms_ws (l : List Atom) : weak (shut (atoms l)) = atoms l := by simp only [atoms, (sl_ws ac ac_clean l).1, (sl_ws ac ac_clean l).2]
theorem stmt_ws (s : Stmt) : weak (shut (.agg s.t57.enc)) = .agg s.t57.enc := by
  have := sc_clean s
  unfold sc at this
  simp only [shut, weak, this.1, this.2]
theorem expr_ws (e : Expr) : weak (shut (.agg e.t55.enc)) = .agg e.t55.enc := by
  have h1 := sl_ws ac ac_clean e.l
  simp only [T55.enc, Expr.t55, shut, weak, shutL, weakL, weakV, atoms, h1.1, h1.2]
theorem block_ws (b : Block) : weak (shut (.agg b.t31.enc)) = .agg b.t31.enc := by
  have h0 := sl_ws (ic .i64) (fun x => ⟨rfl, rfl⟩) b.tmps
  have h1 := sl_ws sc sc_clean b.l
  have h2 := sl_ws pc pc_clean b.spans
  simp only [T31.enc, Block.t31, shut, weak, shutL, weakL, weakV, nums, stmts, spanl, h0.1, h0.2, h1.1, h1.2, h2.1, h2.2]

theorem len_atoms {k : K} (hP : k.P = Tryz.prog) (l : List Atom) : lenE k 53 (atoms l) = some (.v (.int .i64 (l.length : Int))) := len_sl hP Tryz.underlying53 _ l
theorem index_atoms {k : K} (hP : k.P = Tryz.prog) (q : IntKind) (l : List Atom) (i : Nat) (h : i < l.length) : indexAddrE k 53 (atoms l) (.v (.int q (i : Int))) = some (.cp l[i].t28.enc) := index_sl hP Tryz.underlying53 size28' ac ac_len l i h q
theorem len_stmts {k : K} (hP : k.P = Tryz.prog) (l : List Stmt) : lenE k 23 (stmts l) = some (.v (.int .i64 (l.length : Int))) := len_sl hP Tryz.underlying23 _ l
theorem index_stmts {k : K} (hP : k.P = Tryz.prog) (q : IntKind) (l : List Stmt) (i : Nat) (h : i < l.length) : indexAddrE k 23 (stmts l) (.v (.int q (i : Int))) = some (.cp l[i].t57.enc) := index_sl hP Tryz.underlying23 size57' sc sc_len l i h q
theorem len_spans {k : K} (hP : k.P = Tryz.prog) (l : List Span) : lenE k 29 (spanl l) = some (.v (.int .i64 (l.length : Int))) := len_sl hP Tryz.underlying29 _ l
theorem index_spans {k : K} (hP : k.P = Tryz.prog) (q : IntKind) (l : List Span) (i : Nat) (h : i < l.length) : indexAddrE k 29 (spanl l) (.v (.int q (i : Int))) = some (.cp l[i].t108.enc) := index_sl hP Tryz.underlying29 size108' pc pc_len l i h q
theorem openCp28' {Z : Type} (a : Atom) (K : cd28.α → Option Z) : openCp cd28 (.cp a.t28.enc) K = K a.t28 := rfl
theorem openCp57' {Z : Type} (s : Stmt) (K : cd57.α → Option Z) : openCp cd57 (.cp s.t57.enc) K = K s.t57 := rfl
theorem openCp108' {Z : Type} (s : Span) (K : cd108.α → Option Z) : openCp cd108 (.cp s.t108.enc) K = K s.t108 := rfl
end Go.Sv
end
section
namespace Go.Sv
open Go Go.Proofs Go.Proofs.YtkflapebfmcmaaaGreat
set_option linter.all false
set_option maxRecDepth 100000

/-! The reference of the blocks (ref10), function by function. -/
def bytesM (t : Int) : Int := if t == 1 then 1 else if t == 8 then 1 else if t == 16 then 2 else if t == 32 then 4 else if t == 128 then 16 else 0
theorem spec77 (t : Int) (S : St) : run kt (.func 77 [] []) [.v (.int .i64 t)] S = some (.v (.int .i64 (bytesM t)), S) := by
  have := go_closed ks_kt (f := 77) (fst := []) (cap := []) (args := [.v (.int .i64 t)]) (S := S) h77 4000 rfl (fn_kt 77 fn77) rfl (z := (.v (.int .i64 (bytesM t)), St0)) (by
    simp only [List.nil_append, List.append_nil, List.map_cons, List.map_nil, int_ws]
    rw [tell77]
    simp only [splitB_if, mi]
    rfl)
  exact this

def storM (t : Int) : Bool := t != 1 && decide (bytesM t > 0)
theorem spec137 (t : Int) (S : St) : run kt (.func 137 [] []) [.v (.int .i64 t)] S = some (.v (.bool (storM t)), S) := by
  have := go_closed ks_kt (f := 137) (fst := []) (cap := []) (args := [.v (.int .i64 t)]) (S := S) h137 4000 rfl (fn_kt 137 fn137) rfl (z := (.v (.bool (storM t)), St0)) (by
    simp only [List.nil_append, List.append_nil, List.map_cons, List.map_nil, int_ws]
    rw [tell137]
    simp only [splitB_if, mi, mb, mlb, mli, spec77, Option.bind_some, openInt_v, openHd_v, openBool_v]
    unfold storM
    cases (t != 1) <;> rfl)
  exact this

def fitsM (t c0 c1 c2 c3 : Int) : Bool :=
  if t != 128 && (c1 != 0 || c2 != 0 || c3 != 0) then false
  else if t == 1 then decide (c0 < 2) else if t == 8 then decide (c0 < 256) else if t == 16 then decide (c0 < 65536) else decide (bytesM t > 0)
def cells26 (c0 c1 c2 c3 : Int) : List SV := [.v (.int .u32 c0), .v (.int .u32 c1), .v (.int .u32 c2), .v (.int .u32 c3)]
theorem c26_ws (c0 c1 c2 c3 : Int) : weak (shut (.agg (cells26 c0 c1 c2 c3))) = .agg (T26.enc ⟨c0, c1, c2, c3⟩) := rfl
theorem spec141 (t c0 c1 c2 c3 : Int) (S : St) : run kt (.func 141 [] []) [.v (.int .i64 t), .agg [.v (.int .u32 c0), .v (.int .u32 c1), .v (.int .u32 c2), .v (.int .u32 c3)]] S = some (.v (.bool (fitsM t c0 c1 c2 c3)), S) := by
  have := go_closed ks_kt (f := 141) (fst := []) (cap := []) (args := [.v (.int .i64 t), .agg (cells26 c0 c1 c2 c3)]) (S := S) h141 4000 rfl (fn_kt 141 fn141) rfl (z := (.v (.bool (fitsM t c0 c1 c2 c3)), St0)) (by
    simp only [List.nil_append, List.append_nil, List.map_cons, List.map_nil, int_ws, c26_ws]
    rw [tell141]
    simp only [splitB_if, mi, mb, mlb, mli, spec77, Option.bind_some, openInt_v, openHd_v, openBool_v]
    unfold fitsM
    congr 4
    cases (t != 128) <;> cases (c1 != 0) <;> cases (c2 != 0) <;> cases (c3 != 0) <;> rfl)
  exact this

def atomTy (l : List Int) (a : Atom) : Int :=
  if a.tmp == -1 then (if fitsM a.ty a.c0 a.c1 a.c2 a.c3 then a.ty else 0)
  else if h : 0 ≤ a.tmp ∧ a.tmp.toNat < l.length then
    (if a.ty != 0 || !(a.c0 == 0 && a.c1 == 0 && a.c2 == 0 && a.c3 == 0) || bytesM (l[a.tmp.toNat]'h.2) == 0 then 0 else l[a.tmp.toNat]'h.2) else 0
theorem atom_ws (a : Atom) : weak (shut (.agg a.t28.enc)) = .agg a.t28.enc := rfl
theorem spec81 (l : List Int) (a : Atom) (S : St) : run kt (.func 81 [] []) [nums l, .agg a.t28.enc] S = some (.v (.int .i64 (atomTy l a)), S) := by
  have := go_closed ks_kt (f := 81) (fst := []) (cap := []) (args := [nums l, .agg a.t28.enc]) (S := S) h81 4000 rfl (fn_kt 81 fn81) rfl (z := (.v (.int .i64 (atomTy l a)), St0)) (by
    simp only [List.nil_append, List.append_nil, List.map_cons, List.map_nil, nums_ws, atom_ws]
    have e := tell81 4000 l.length (l.flatMap (ic .i64)) a.t28
    rw [show SV.sl none l.length (l.flatMap (ic .i64)) = nums l from rfl] at e
    rw [e]
    clear e
    simp only [splitB_dec]
    simp only [splitB_if]
    unfold atomTy
    by_cases h1 : a.tmp == -1
    · rw [if_pos (show (a.t28.tmp == -1) = true from h1), if_pos h1]
      have := spec141 a.ty a.c0 a.c1 a.c2 a.c3 St0
      simp only [Atom.t28, this, Option.bind_some, openBool_v]
      cases fitsM a.ty a.c0 a.c1 a.c2 a.c3 <;> rfl
    · rw [if_neg (show ¬ (a.t28.tmp == -1) = true from h1), if_neg h1]
      by_cases h2 : 0 ≤ a.tmp ∧ a.tmp.toNat < l.length
      · rw [dif_pos h2]
        obtain ⟨h2, h3⟩ := h2
        have e1 : a.t28.tmp = (a.tmp.toNat : Int) := (Int.toNat_of_nonneg h2).symm
        have i1 := index_nums (P_kt 81) .i64 l a.tmp.toNat h3
        rw [← e1] at i1
        rw [if_neg (show ¬ a.t28.tmp < 0 from by show ¬ a.tmp < 0; omega), if_neg (show ¬ a.t28.tmp ≥ (l.length : Int) by show ¬ a.tmp ≥ _; omega)]
        simp only [i1, Option.bind_some, load_cp (P_kt 81), openInt_v, spec77]
        simp only [mlb, Option.bind_some, openHd_v, openBool_v, mi]
        simp only [Atom.t28]
        simp only [ite_or, Bool.and_true, Bool.and_assoc, Bool.or_assoc]
      · rw [dif_neg h2]
        by_cases h4 : a.tmp < 0
        · rw [if_pos (show a.t28.tmp < 0 from h4)]; rfl
        · rw [if_neg (show ¬ a.t28.tmp < 0 from h4), if_pos (show a.t28.tmp ≥ (l.length : Int) by show a.tmp ≥ _; omega)]; rfl)
  exact this

def areM (l m : List Int) : Bool := decide (l.length = m.length) && !(l.zip m).any fun p => p.1 != p.2
theorem areM_eq (l m : List Int) : areM l m = decide (l = m) := by
  unfold areM
  induction l generalizing m with
  | nil => cases m <;> simp
  | cons x r ih =>
    cases m with
    | nil => simp
    | cons y m =>
      have := ih m
      simp only [List.length_cons, Nat.add_right_cancel_iff, List.zip_cons_cons, List.any_cons, List.cons.injEq]
      by_cases h : x = y
      · subst h; simpa using this
      · simp [h]
theorem spec76 (l m : List Int) (hl : l.length ≤ 1000000000) (S : St) {x y : SV} (hx : weak (shut x) = nums l) (hy : weak (shut y) = nums m) : run kt (.func 76 [] []) [x, y] S = some (.v (.bool (areM l m)), S) := by
  have := go_closed ks_kt (f := 76) (fst := []) (cap := []) (args := [x, y]) (S := S) h76 (l.length + 1) rfl (fn_kt 76 fn76) rfl (z := (.v (.bool (areM l m)), St0)) (by
    simp only [List.nil_append, List.append_nil, List.map_cons, List.map_nil, hx, hy]
    have e := tell76 (l.length + 1) l.length (l.flatMap (ic .i64)) m.length (m.flatMap (ic .i64))
    rw [show SV.sl none l.length (l.flatMap (ic .i64)) = nums l from rfl, show SV.sl none m.length (m.flatMap (ic .i64)) = nums m from rfl] at e
    rw [e]
    clear e
    simp only [splitB_dec]
    simp only [splitB_if]
    by_cases hlen : l.length = m.length
    · rw [if_neg (by simp [hlen])]
      refine abs_iter fun F hF => ?_
      have hz : (l.zip m).length = l.length := by simp [hlen]
      obtain ⟨j, hj⟩ := iter_any (F := F) (l.zip m) (fun i => [.v (.bool false), .v (.int .i64 (i : Int))]) St0 (fun p => p.1 != p.2) (fun i => [.v (.bool false), .v (.int .i64 (i : Int))])
        (fun i h => by
          have h1 : i < l.length := by omega
          have h2 : i < m.length := by omega
          rw [hF]
          simp only [openHd_v, openBool_v, openInt_v]
          rw [if_pos (by omega), index_nums (P_kt 76) .i64 l i h1, index_nums (P_kt 76) .i64 m i h2]
          simp only [Option.bind_some, loadK_cp (P_kt 76), openInt_v]
          rw [wrap_in (by omega) (by omega)]
          simp only [List.getElem_zip]
          rfl)
        (by
          rw [hF]
          simp only [openHd_v, openBool_v, openInt_v]
          rw [if_neg (by rw [hz]; omega)]) (M := l.length + 1) (by omega)
      have hj : iter F (l.length + 1) [.v (.bool false), .v (.int .i64 0)] St0 = _ := hj
      rw [hj]
      have hm : areM l m = !(l.zip m).any fun p => p.1 != p.2 := by simp [areM, hlen]
      rw [hm]
      cases (l.zip m).any fun p => p.1 != p.2 <;> rfl
    · rw [if_pos (by simp; omega)]
      have : areM l m = false := by simp [areM, hlen]
      rw [this])
  exact this

/-- All numbers are 0. -/
def zerosM (l : List Int) : Bool := !l.any fun x => x != 0
theorem spec138 (l : List Int) (hl : l.length ≤ 1000000000) (S : St) {x : SV} (hx : weak (shut x) = nums l) : run kt (.func 138 [] []) [x] S = some (.v (.bool (zerosM l)), S) := by
  have := go_closed ks_kt (f := 138) (fst := []) (cap := []) (args := [x]) (S := S) h138 (l.length + 1) rfl (fn_kt 138 fn138) rfl (z := (.v (.bool (zerosM l)), St0)) (by
    simp only [List.nil_append, List.append_nil, List.map_cons, List.map_nil, hx]
    have e := tell138 (l.length + 1) l.length (l.flatMap (ic .i64))
    rw [show SV.sl none l.length (l.flatMap (ic .i64)) = nums l from rfl] at e
    rw [e]
    clear e
    simp only [splitB_dec]
    simp only [splitB_if]
    refine abs_iter fun F hF => ?_
    obtain ⟨j, hj⟩ := iter_any (F := F) l (fun i => [.v (.bool false), .v (.int .i64 (i : Int))]) St0 (fun x => x != 0) (fun i => [.v (.bool false), .v (.int .i64 (i : Int))])
      (fun i h => by
        rw [hF]
        simp only [openHd_v, openBool_v, openInt_v]
        rw [if_pos (by omega), index_nums (P_kt 138) .i64 l i h]
        simp only [Option.bind_some, load_cp (P_kt 138), openInt_v]
        rw [wrap_in (by omega) (by omega)]
        rfl)
      (by
        rw [hF]
        simp only [openHd_v, openBool_v, openInt_v]
        rw [if_neg (by omega)]) (M := l.length + 1) (by omega)
    have hj : iter F (l.length + 1) [.v (.bool false), .v (.int .i64 0)] St0 = _ := hj
    rw [hj]
    unfold zerosM
    cases l.any fun x => x != 0 <;> rfl)
  exact this

/-- n types, all equal, and types at all. -/
def sameM (l : List Int) (n : Int) : Bool := decide ((l.length : Int) = n) && !l.any fun x => x == 0 || x != l.headD 0
theorem spec139 (l : List Int) (n : Int) (hl : l.length ≤ 1000000000) (S : St) {x : SV} (hx : weak (shut x) = nums l) : run kt (.func 139 [] []) [x, .v (.int .i64 n)] S = some (.v (.bool (sameM l n)), S) := by
  have := go_closed ks_kt (f := 139) (fst := []) (cap := []) (args := [x, .v (.int .i64 n)]) (S := S) h139 (l.length + 1) rfl (fn_kt 139 fn139) rfl (z := (.v (.bool (sameM l n)), St0)) (by
    simp only [List.nil_append, List.append_nil, List.map_cons, List.map_nil, hx, int_ws]
    have e := tell139 (l.length + 1) l.length (l.flatMap (ic .i64)) n
    rw [show SV.sl none l.length (l.flatMap (ic .i64)) = nums l from rfl] at e
    rw [e]
    clear e
    simp only [splitB_dec]
    simp only [splitB_if]
    by_cases hlen : (l.length : Int) = n
    · subst hlen
      rw [if_neg (by simp)]
      refine abs_iter fun F hF => ?_
      obtain ⟨j, hj⟩ := iter_any (F := F) l (fun i => [.v (.bool false), .v (.int .i64 (i : Int))]) St0 (fun x => x == 0 || x != l.headD 0) (fun i => [.v (.bool false), .v (.int .i64 (i : Int))])
        (fun i h => by
          have i0 := index_nums (P_kt 139) .i64 l 0 (by omega)
          have hh : l.headD 0 = l[0] := by cases l with | nil => simp at h | cons a r => rfl
          rw [hF]
          simp only [openHd_v, openBool_v, openInt_v]
          rw [if_pos (by omega), index_nums (P_kt 139) .i64 l i h]
          rw [show ((0 : Nat) : Int) = 0 from rfl] at i0
          simp only [Option.bind_some, loadK_cp (P_kt 139), openInt_v, i0, mlb, openHd_v, openBool_v, ite_or, hh]
          rw [wrap_in (by omega) (by omega)]
          rfl)
        (by
          rw [hF]
          simp only [openHd_v, openBool_v, openInt_v]
          rw [if_neg (by omega)]) (M := l.length + 1) (by omega)
      have hj : iter F (l.length + 1) [.v (.bool false), .v (.int .i64 0)] St0 = _ := hj
      rw [hj]
      have hm : sameM l l.length = !l.any fun x => x == 0 || x != l.headD 0 := by simp [sameM]
      rw [hm]
      cases l.any fun x => x == 0 || x != l.headD 0 <;> rfl
    · rw [if_pos (by simpa using hlen)]
      have : sameM l n = false := by simp [sameM, hlen]
      rw [this])
  exact this

def noneM (e : Expr) : Bool := e.kind == 0 && (e.ty == 0 && (e.op == 0 && (e.off == 0 && decide (e.l.length = 0))))
theorem spec134 (e : Expr) (S : St) : run kt (.func 134 [] []) [.agg e.t55.enc] S = some (.v (.bool (noneM e)), S) := by
  have := go_closed ks_kt (f := 134) (fst := []) (cap := []) (args := [.agg e.t55.enc]) (S := S) h134 0 rfl (fn_kt 134 fn134) rfl (z := (.v (.bool (noneM e)), St0)) (by
    simp only [List.nil_append, List.append_nil, List.map_cons, List.map_nil, expr_ws]
    rw [tell134]
    simp only [splitB_if, Expr.t55, len_atoms (P_kt 134), Option.bind_some, openInt_v, mlb, openHd_v, openBool_v, ite_and]
    unfold noneM
    congr 6
    by_cases h : e.l.length = 0 <;> simp [h])
  exact this

def defM (s : Stmt) : Int := if s.kind == 2 || s.kind == 5 then s.tmp else -1
theorem spec80 (s : Stmt) (S : St) : run kt (.func 80 [] []) [.agg s.t57.enc] S = some (.v (.int .i64 (defM s)), S) := by
  have := go_closed ks_kt (f := 80) (fst := []) (cap := []) (args := [.agg s.t57.enc]) (S := S) h80 0 rfl (fn_kt 80 fn80) rfl (z := (.v (.int .i64 (defM s)), St0)) (by
    simp only [List.nil_append, List.append_nil, List.map_cons, List.map_nil, stmt_ws]
    rw [tell80]
    simp only [splitB_if, Stmt.t57, mlb, Option.bind_some, openHd_v, openBool_v, ite_or, mi]
    rfl)
  exact this
end Go.Sv
end
section
namespace Go.Sv
open Go Go.Proofs Go.Proofs.YtkflapebfmcmaaaGreat
set_option linter.all false
set_option maxRecDepth 100000

theorem splitG_v {Z : Type} (b : Bool) (x y z : Option Z) : splitG (.v (.bool b)) x y z = if b = true then x else y := by cases b <;> rfl
theorem rem_v {k : K} {t : TypeId} (a b : Int) (h : b ≠ 0) : binE k .rem t (.v (.int .i64 a)) (.v (.int .i64 b)) = some (.v (.int .i64 (a.tmod b))) := by
  simp [binE, intBin, h]
theorem eql_v {k : K} {t : TypeId} (q : IntKind) (a b : Int) : binE k .eql t (.v (.int q a)) (.v (.int q b)) = some (.v (.bool (a == b))) := by
  simp [binE, intBin]
theorem bytesM_pos (t : Int) : 0 ≤ bytesM t ∧ bytesM t ≤ 16 := by
  unfold bytesM
  repeat' split
  all_goals omega

/-- A type can stand at an offset of the guest state. -/
def placesM (ty off : Int) : Bool := storM ty && (decide (off ≥ 0) && (off.tmod (bytesM ty) == 0 && decide (off ≤ 672 - bytesM ty)))
theorem spec136 (ty off : Int) (S : St) : run kt (.func 136 [] []) [.v (.int .i64 ty), .v (.int .i64 off)] S = some (.v (.bool (placesM ty off)), S) := by
  have := go_closed ks_kt (f := 136) (fst := []) (cap := []) (args := [.v (.int .i64 ty), .v (.int .i64 off)]) (S := S) h136 0 rfl (fn_kt 136 fn136) rfl (z := (.v (.bool (placesM ty off)), St0)) (by
    simp only [List.nil_append, List.append_nil, List.map_cons, List.map_nil, int_ws]
    rw [tell136]
    simp only [splitB_dec]
    simp only [splitB_if, spec77, spec137, Option.bind_some, openInt_v, openBool_v]
    unfold placesM
    have hb := bytesM_pos ty
    cases h : storM ty with
    | false => simp [openHd_v, openBool_v]
    | true =>
      have h0 : bytesM ty ≠ 0 := by
        intro e
        simp [storM, e] at h
      rw [wrap_in (by omega) (by omega)]
      simp only [rem_v _ _ h0, eql_v, Option.bind_some, splitG_v, if_true, Bool.true_and]
      by_cases h2 : off ≥ 0
      · simp only [h2, if_true, decide_true, Bool.true_and]
        cases (off.tmod (bytesM ty) == 0) <;> simp [openHd_v, openBool_v]
      · simp [h2, openHd_v, openBool_v])
  exact this

def wordM (is : Bool) (off : Int) : Bool := off == 0 || (is && (decide (off > 0) && decide (off ≤ 3)))
theorem spec180 (is : Bool) (off : Int) (S : St) : run kt (.func 180 [] []) [.v (.bool is), .v (.int .i64 off)] S = some (.v (.bool (wordM is off)), S) := by
  have := go_closed ks_kt (f := 180) (fst := []) (cap := []) (args := [.v (.bool is), .v (.int .i64 off)]) (S := S) h180 0 rfl (fn_kt 180 fn180) rfl (z := (.v (.bool (wordM is off)), St0)) (by
    simp only [List.nil_append, List.append_nil, List.map_cons, List.map_nil, int_ws, bool_ws]
    rw [tell180]
    simp only [splitB_if, mlb, ite_or, ite_and, Option.bind_some, openHd_v, openBool_v]
    rfl)
  exact this

def unaryM (op f t : Int) : Bool :=
  if op == 1 then f == t && f != 0
  else if op == 2 || op == 3 then (f == 1 || f == 8 || f == 16) && t == 32
  else if op == 4 then f == 32 && (t == 8 || t == 16)
  else if op == 5 then f != 0 && t == 1
  else if op == 6 then f == 1 && storM t
  else if op == 7 then f == 32 && t == 32
  else if op == 8 || op == 9 || op == 10 then f == 128 && t == 128
  else if op == 11 then f == 32 && t == 128
  else if op == 12 || op == 13 then f == 128 && t == 32
  else false
theorem spec179 (op f t : Int) (S : St) : run kt (.func 179 [] []) [.v (.int .i64 op), .v (.int .i64 f), .v (.int .i64 t)] S = some (.v (.bool (unaryM op f t)), S) := by
  have := go_closed ks_kt (f := 179) (fst := []) (cap := []) (args := [.v (.int .i64 op), .v (.int .i64 f), .v (.int .i64 t)]) (S := S) h179 0 rfl (fn_kt 179 fn179) rfl (z := (.v (.bool (unaryM op f t)), St0)) (by
    simp only [List.nil_append, List.append_nil, List.map_cons, List.map_nil, int_ws]
    rw [tell179]
    simp only [splitB_if, spec137, Option.bind_some, mlb, ite_or, ite_and, openHd_v, openBool_v, mb]
    unfold unaryM
    congr 4
    by_cases h1 : op = 1
    · subst h1; simp
    by_cases h2 : op = 2
    · subst h2
      cases a : (f == 1) <;> cases b : (f == 8) <;> cases c : (f == 16) <;> cases (t == 32) <;> rfl
    by_cases h3 : op = 3
    · subst h3
      cases a : (f == 1) <;> cases b : (f == 8) <;> cases c : (f == 16) <;> cases (t == 32) <;> rfl
    simp [h1, h2, h3]
    repeat' split
    all_goals first | (simp_all; done) | (by_cases h13 : op = 13 <;> simp_all))
  exact this

theorem bytes22 : bytes? (kt.at 133) 3 = some 8 := by kernel_rfl
theorem zero22 : zero? (kt.at 133) 3 = some [.v (.int .i64 0)] := by kernel_rfl
def typesM (l : List Int) (xs : List Atom) : List Int := xs.map (atomTy l)
theorem spec133 (l : List Int) (xs : List Atom) (hl : xs.length ≤ 1000000) (S : St) : run kt (.func 133 [] []) [nums l, atoms xs] S = some (nums (typesM l xs), S) := by
  suffices ∃ y S2, cBody (kt.at 133) h133 (run kt) (xs.length + 1) (compF Tryz.f133) [nums l, atoms xs] St0 = some (y, S2) ∧ erase S2 y = nums (typesM l xs) by
    obtain ⟨y, S2, h1, h2⟩ := this
    have := go_closed ks_kt (f := 133) (fst := []) (cap := []) (args := [nums l, atoms xs]) (S := S) h133 (xs.length + 1) rfl (fn_kt 133 fn133) rfl (z := (y, S2)) (by
      simp only [List.nil_append, List.append_nil, List.map_cons, List.map_nil, nums_ws, atoms_ws]
      exact h1)
    rw [h2] at this
    exact this
  have e := tell133 (xs.length + 1) l.length (l.flatMap (ic .i64)) xs.length (xs.flatMap ac)
  rw [show SV.sl none l.length (l.flatMap (ic .i64)) = nums l from rfl, show SV.sl none xs.length (xs.flatMap ac) = atoms xs from rfl] at e
  rw [e]
  clear e
  simp only [splitB_dec]
  generalize hF : (fun vs0 S1 => _ : List SV → St → Option (Ex × List SV × St)) = F
  obtain ⟨y, S2, h1, h2, h3⟩ := iter_map (F := F) (k := kt.at 133) (t := 22) (e := 3) (sz := 1) (elem_of (P_kt 133) Tryz.underlying22) (size_of (P_kt 133) size3) bytes22 zero22 (by decide) (by decide) rfl (by decide)
    xs (fun a => ic .i64 (atomTy l a)) (fun _ _ => rfl) (by simp only [room]; omega) (fun y i => [y, .v (.int .i64 (i : Int))]) 0
    (fun i h y S hf hA => by
      rw [← hF]
      simp only [openHd_v, openBool_v, openInt_v]
      rw [if_pos (by omega), index_atoms (P_kt 133) .i64 xs i h]
      simp only [Option.bind_some, openCp28', spec81, openInt_v]
      rw [wrap_in (by omega) (by omega)]
      rfl)
    (fun y S hf hA => by
      rw [← hF]
      simp only [openHd_v, openBool_v, openInt_v]
      rw [if_neg (by omega)]) xs 0 rfl (by omega) (.v (.slice none 0 0)) St0 (xs.length + 1) rfl (acc0 1 (by decide)) (by omega)
  have h1 : iter F (xs.length + 1) [.v (.slice none 0 0), .v (.int .i64 0)] St0 = _ := h1
  rw [h1]
  refine ⟨y, S2, rfl, ?_⟩
  rw [acc_erase h2]
  have : (xs.flatMap fun a => ic .i64 (atomTy l a)) = (typesM l xs).flatMap (ic .i64) := by simp [typesM, List.flatMap_map]
  rw [this, eraseL_nums]
  simp [nums, sl, typesM]
end Go.Sv
end
section
namespace Go.Sv
open Go Go.Proofs Go.Proofs.YtkflapebfmcmaaaGreat
set_option linter.all false
set_option maxRecDepth 100000

/-- What comes to a truth value, in whatever state. -/
def ExB (r : Option (SV × St)) (b : Bool) : Prop := ∃ S, r = some (.v (.bool b), S)
theorem exB_ite {c : Prop} [Decidable c] {A B : Option (SV × St)} {a b : Bool} (h1 : c → ExB A a) (h2 : ¬c → ExB B b) : ExB (if c then A else B) (if c then a else b) := by
  split
  · exact h1 ‹_›
  · exact h2 ‹_›
theorem exB (b : Bool) (S : St) : ExB (some (.v (.bool b), S)) b := ⟨S, rfl⟩
theorem closed_bool {f : FuncId} {args : List SV} {S : St} {c : CF} (h : H) (N : Nat) {b : Bool} (hp : kt.prim f = none) (hc : kt.fns f = some c) (hm : kt.mode f = 3) (e : ExB (cBody (kt.at f) h (run kt) N c (args.map fun x => weak (shut x)) St0) b) : run kt (.func f [] []) args S = some (.v (.bool b), S) := by
  obtain ⟨S2, e⟩ := e
  exact go_closed ks_kt (f := f) (fst := []) (cap := []) (args := args) (S := S) h N hp hc hm (z := (.v (.bool b), S2)) (by simpa using e)

def binaryM (op : Int) (l : List Int) (to : Int) : Bool :=
  if (decide (op ≥ 1) && decide (op ≤ 7)) = true then areM l [32, 32] && to == 32
  else if (decide (op ≥ 11) && decide (op ≤ 13)) = true then areM l [32, 32] && to == 32
  else if (decide (op ≥ 8) && decide (op ≤ 10)) = true then sameM l 2 && to == l.headD 0
  else if (op == 14) = true then sameM l 2 && to == 1
  else if (op == 15) = true then sameM l 2 && to == 1
  else if (decide (op ≥ 16) && decide (op ≤ 19)) = true then areM l [32, 32] && to == 1
  else if (decide (op ≥ 20) && decide (op ≤ 29)) = true then areM l [128, 128] && to == 128
  else if (op == 30) = true then areM l [128, 32] && to == 128
  else false

set_option maxHeartbeats 2000000 in
theorem spec181 (op : Int) (l : List Int) (to : Int) (hl : l.length ≤ 1000000000) (S : St) : run kt (.func 181 [] []) [.v (.int .i64 op), nums l, .v (.int .i64 to)] S = some (.v (.bool (binaryM op l to)), S) := by
  refine closed_bool h181 0 rfl (fn_kt 181 fn181) rfl ?_
  simp only [List.map_cons, List.map_nil, int_ws, nums_ws]
  have e := tell181 0 op l.length (l.flatMap (ic .i64)) to
  rw [show SV.sl none l.length (l.flatMap (ic .i64)) = nums l from rfl] at e
  rw [e]
  clear e
  have e76 : ∀ (id : Option Nat) (S : St) (a b : Int), run kt (.func 76 [] []) [nums l, .sl id 2 [.v (.int .i64 a), .v (.int .i64 b)]] S = some (.v (.bool (areM l [a, b])), S) := fun id S a b => spec76 l [a, b] hl S (nums_ws l) (own_ws id [a, b])
  have e139 : ∀ S, run kt (.func 139 [] []) [nums l, .v (.int .i64 2)] S = some (.v (.bool (sameM l 2)), S) := fun S => spec139 l 2 hl S (nums_ws l)
  simp only [splitB_if, e76, e139, Option.bind_some, openBool_v, mlb, ite_and, openHd_v, mb]
  unfold binaryM
  refine exB_ite (fun _ => exB _ _) fun _ => exB_ite (fun _ => exB _ _) fun _ => exB_ite (fun _ => ?_) fun _ => exB_ite (fun _ => exB _ _) fun _ => exB_ite (fun _ => exB _ _) fun _ => exB_ite (fun _ => exB _ _) fun _ => exB_ite (fun _ => exB _ _) fun _ => exB_ite (fun _ => exB _ _) fun _ => exB _ _
  cases h : sameM l 2 with
  | false => exact exB _ _
  | true =>
    cases l with
    | nil => simp [sameM] at h
    | cons x r =>
      have i0 := index_nums (P_kt 181) .i64 (x :: r) 0 (by simp)
      rw [show ((0 : Nat) : Int) = 0 from rfl] at i0
      simp only [if_true, i0, Option.bind_some, load_cp (P_kt 181), openInt_v, openHd_v, openBool_v, Bool.true_and]
      exact exB _ _
end Go.Sv
end
