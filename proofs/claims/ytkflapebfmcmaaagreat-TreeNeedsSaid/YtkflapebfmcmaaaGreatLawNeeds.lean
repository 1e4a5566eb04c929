/- A part of the proofs of this seat's laws: an interpreter of the program's form, its soundness against the model, or what it answers on this program. -/
import Derived.Test.YtkflapebfmcmaaaGreatNeedSpec
namespace Go.Sv
open Go Go.Proofs Go.Proofs.YtkflapebfmcmaaaGreat
set_option linter.all false
set_option maxRecDepth 100000

theorem cntL_size (l : List Tree) (h : ∀ t ∈ l, ∀ most d, 0 ≤ most → cntM t most d ≤ most → cntM t most d = tsize t) : ∀ most d n, 0 ≤ most → 1 ≤ n → cntL l most d n ≤ most → cntL l most d n = n + tsizes l := by
  induction l with
  | nil => intro most d n _ _ _; simp [cntL, tsizes]
  | cons t r ih =>
    intro most d n h0 h1 hle
    rw [cntL] at hle ⊢
    by_cases hn : n ≤ most
    · rw [if_pos hn] at hle ⊢
      have hb := cntM_bound t (most - n) d (by omega)
      have hbr := cntL_bound r (fun t _ => cntM_bound t) most d (n + cntM t (most - n) d) h0 (by omega) (by omega)
      have := h t (by simp) (most - n) d (by omega) (by omega)
      have := ih (fun t ht => h t (by simp [ht])) most d (n + cntM t (most - n) d) h0 (by omega) hle
      rw [tsizes]
      omega
    · rw [if_neg hn] at hle
      omega

theorem cntM_size : ∀ t most d, 0 ≤ most → cntM t most d ≤ most → cntM t most d = tsize t := by
  apply Tree.ind (P := fun t => ∀ most d, 0 ≤ most → cntM t most d ≤ most → cntM t most d = tsize t)
  intro a k ty op off l ih most d h0 hle
  cases d with
  | zero => simp [cntM] at hle; omega
  | succ d =>
    rw [cntM] at hle ⊢
    rw [tsize]
    have := cntL_size l ih most d 1 h0 (by omega) hle
    omega

theorem run36 (x : SV) (t : Tree) (hs : tsize t ≤ 3000) (hx : weak (shut x) = .agg t.cells) (S : St) : run kt (.func 36 [] []) [x] S = some (.v (.int .i64 (need t)), S) :=
  run_prim (k := kt) (p := fun a S => run k1 (.func 36 [] []) a S) rfl (need_spec t hs x hx S)
theorem run12 (S : St) : run kt (.func 12 [] []) [] S = some (.v (.bool true), S) := run_prim (k := kt) (p := saneP) rfl rfl

theorem sortD_perm_eq {l m : List Int} (h : l.Perm m) : sortD l = sortD m :=
  sorted_eq ((sortD_perm l).trans (h.trans (sortD_perm m).symm)) (sortD_sorted l) (sortD_sorted m)

/-- Ten cells of a tree, and what its elements are. -/
def hd10 (t : Tree) : List SV := [.v (.int .i64 t.a.tmp), .v (.int .i64 t.a.ty), .v (.int .u32 t.a.c0), .v (.int .u32 t.a.c1), .v (.int .u32 t.a.c2), .v (.int .u32 t.a.c3), .v (.int .i64 t.kind), .v (.int .i64 t.ty), .v (.int .i64 t.op), .v (.int .i64 t.off)]

theorem bytes37 : bytes? (kt.at 9) 37 = some 88 := by kernel_rfl
theorem zlen' {x : Option (List SV)} {n : Nat} (h : x.map List.length = some n) : ∃ z, x = some z ∧ z.length = n := by
  cases x with
  | none => cases h
  | some z => exact ⟨z, rfl, by simpa using h⟩
theorem zero37 : ∃ z, zero? (kt.at 9) 37 = some z ∧ z.length = 11 := zlen' (by kernel_rfl)
theorem fn9 : fnsK 9 = some (compF Tryz.f9) := by kernel_rfl

/-- The tree turned round, so far. -/
def Back (t : Tree) (done : List Tree) (S : St) : Prop :=
  S.floor = 0 ∧ 0 < S.next ∧ ∃ y, S.get 0 = .cells (hd10 t ++ [y]) ∧ ((done = [] ∧ y = .v (.slice none 0 0)) ∨ ∃ b, y = .sl (some b) done.length (done.flatMap Tree.cells) ∧ S.get b = .own 11 (done.length * 11) ∧ 0 < b ∧ b < S.next)

theorem elem35 : elem? (kt.at 9) 35 = some 37 := elem_of (P_kt 9) Tryz.underlying35
theorem sz37 : size? (kt.at 9) 37 = some 11 := size_of (P_kt 9) size37
theorem sz35 : size? (kt.at 9) 35 = some 1 := by kernel_rfl
theorem ag35 : agg? (kt.at 9) 35 = some false := by kernel_rfl

theorem back_append {t x : Tree} {done : List Tree} {S : St} (h : Back t done S) (hl : done.length ≤ 5000) : ∃ y y' S' S2, loadE (kt.at 9) 35 (.ptr 0 10) S = some y ∧
    appendE (kt.at 9) 35 y (.sl (some S.next) 1 x.t37.enc) (S.alloc (.own 11 11)) = some (y', S') ∧ single y' = true ∧ (∀ {Z : Type} (K : St → Option Z), storeK (kt.at 9) 35 (.ptr 0 10) y' S' K = K S2) ∧ S.next ≤ S2.next ∧ Back t (done ++ [x]) S2 := by
  obtain ⟨hf, hn, y, hg, h⟩ := h
  obtain ⟨z, hz, hzl⟩ := zero37
  have hld : loadE (kt.at 9) 35 (.ptr 0 10) S = some y := by
    simp [loadE, ag35, sz35, hg, objCells, takeVal, hd10]
  have hbx : (kt.at 9).inBox 37 = 0 := rfl
  have hxl : x.t37.enc.length = 11 := rfl
  have store : ∀ {Z : Type} (y' : SV) (S' : St) (K : St → Option Z), single y' = true → S'.floor = 0 → S'.get 0 = .cells (hd10 t ++ [y]) → storeK (kt.at 9) 35 (.ptr 0 10) y' S' K = K (S'.put 0 (.cells (hd10 t ++ [y']))) := by
    intro Z y' S' K hs hf hg
    simp only [storeK, sz35, Option.bind_some, cellsK, if_true, if_pos hs, hf, hg, Nat.le_refl]
    simp [hd10, splice]
  rcases h with ⟨rfl, rfl⟩ | ⟨b, rfl, hb, hb0, hbn⟩
  · refine ⟨_, .sl (some (S.next + 1)) 1 x.t37.enc, (S.alloc (.own 11 11)).alloc (.own 11 11), _, hld, ?_, rfl, fun K => store _ _ K rfl hf (by
      have e1 : (0 : Nat) ≠ S.next + 1 := by omega
      have e2 : (0 : Nat) ≠ S.next := by omega
      simp [St.alloc, e1, e2, hg]), by simp [St.alloc, St.put]; omega, hf, by simp [St.alloc, St.put], .sl (some (S.next + 1)) 1 x.t37.enc, by simp [St.put], .inr ⟨S.next + 1, ?_, ?_, by omega, by simp [St.alloc, St.put]⟩⟩
    · simp [appendE, elem35, sz37, bytes37, hz, hzl, srcCells, hxl, hbx, room]
      simp [St.alloc, T37.enc]
    · simp [Tree.cells]
    · simp [St.alloc, St.put]
  · have hgb : (S.alloc (.own 11 11)).get b = .own 11 (done.length * 11) := by
      have : b ≠ S.next := by omega
      simp [St.alloc, this, hb]
    have hcl : (done.flatMap Tree.cells).length = done.length * 11 := flatMap_len Tree.cells 11 Tree.cells_len done
    refine ⟨_, .sl (some (S.next + 1)) (done.length + 1) (done.flatMap Tree.cells ++ x.t37.enc), ((S.alloc (.own 11 11)).put b .dead).alloc (.own 11 (done.length * 11 + 11)), _, hld, ?_, rfl, fun K => store _ _ K rfl hf (by
      have e1 : (0 : Nat) ≠ S.next + 1 := by omega
      have e2 : (0 : Nat) ≠ S.next := by omega
      have e3 : (0 : Nat) ≠ b := by omega
      simp [St.alloc, St.put, e1, e2, e3, hg]), by simp [St.alloc, St.put]; omega, hf, by simp [St.alloc, St.put], .sl (some (S.next + 1)) (done.length + 1) (done.flatMap Tree.cells ++ x.t37.enc), by simp [St.put], .inr ⟨S.next + 1, ?_, ?_, by omega, by simp [St.alloc, St.put]⟩⟩
    · simp only [appendE, elem35, sz37, bytes37, hz, srcCells, Option.bind_some, hxl, hgb, hbx]
      rw [if_pos (by decide)]
      simp only [Option.bind_some]
      rw [if_neg (by simp [hzl]), if_neg (by decide), if_pos ⟨by simp [St.alloc, hf], trivial, hcl, hcl, by simp only [room]; omega, by decide⟩]
      rw [hcl, hxl]; rfl
    · simp [Tree.cells]
    · simp [St.alloc, St.put, Nat.add_mul]

theorem enc_hd (t : Tree) : t.t37.enc = hd10 t ++ [sl Tree.cells t.l] := by
  simp [T37.enc, hd10, t37_l, t37_kind, t37_ty, t37_op, t37_off, t37_tmp, t37_aty, t37_c0, t37_c1, t37_c2, t37_c3]

theorem flat_ws (l : List Tree) : shutL (l.flatMap Tree.cells) = l.flatMap Tree.cells ∧ weakL (l.flatMap Tree.cells) = l.flatMap Tree.cells := by
  induction l with
  | nil => simp [shutL, weakL]
  | cons t r ih => simp only [List.flatMap_cons, shutL_append, weakL_append, ih.1, ih.2, (tree_clean t).1, (tree_clean t).2, and_self]

/-- A tree with other elements. -/
def Tree.withL (t : Tree) (l : List Tree) : Tree := .mk t.a t.kind t.ty t.op t.off l

theorem back_ws {t : Tree} {done : List Tree} {S : St} (h : Back t done S) : ∃ cs, loadE (kt.at 9) 37 (.ptr 0 0) S = some (.agg cs) ∧ T37.dec cs = some ⟨t.a.tmp, t.a.ty, t.a.c0, t.a.c1, t.a.c2, t.a.c3, t.kind, t.ty, t.op, t.off, cs.getD 10 .top⟩ ∧ weak (shut (.agg cs)) = .agg (t.withL done).cells := by
  obtain ⟨hf, hn, y, hg, h⟩ := h
  refine ⟨hd10 t ++ [y], ?_, ?_, ?_⟩
  · simp [loadE, agg_of (P_kt 9) Tryz.underlying37, sz37, hg, objCells, takeVal, hd10]
  · simp [hd10, T37.dec]
  · unfold Tree.cells
    rw [enc_hd]
    rcases h with ⟨rfl, rfl⟩ | ⟨b, rfl, _⟩
    · simp [hd10, shut, shutL, weak, weakL, weakV, Tree.withL, Tree.a, Tree.kind, Tree.ty, Tree.op, Tree.off, Tree.l, sl]
    · simp [hd10, shut, shutL, weak, weakL, weakV, Tree.withL, Tree.a, Tree.kind, Tree.ty, Tree.op, Tree.off, Tree.l, sl, (flat_ws done).1, (flat_ws done).2]

theorem openAgg_dec {Z : Type} {cs : List SV} {a : T37} (h : T37.dec cs = some a) (K : cd37.α → Option Z) : openAgg cd37 (.agg cs) K = K a := by
  show (T37.dec cs).bind K = K a
  rw [h]; rfl

theorem dec_enc37 {cs : List SV} {a : T37} (h : T37.dec cs = some a) : a.enc = cs := T37.ok _ _ h

set_option maxHeartbeats 1000000 in
/-- The law. -/
theorem needs_law (t : Tree) : ∃ S', run kt (.func 9 [] []) [.agg t.cells] St0 = some (.v (.bool true), S') := by
  suffices ∃ S', cBody (kt.at 9) h9 (run kt) 5000 (compF Tryz.f9) [.agg t.t37.enc] St0 = some (.v (.bool true), S') by
    obtain ⟨S', h⟩ := this
    exact ⟨_, go_closed ks_kt (f := 9) (fst := []) (cap := []) (S := St0) h9 5000 rfl (fn_kt 9 fn9) rfl (z := (.v (.bool true), S')) (by
      simp only [List.nil_append, List.append_nil, List.map_cons, List.map_nil, tree_ws]
      exact h)⟩
  rw [tell9, run12]
  simp only [Option.bind_some, openBool_v, splitB_if]
  rw [if_neg (by simp)]
  have hc := count_spec t 3000 60 St0 (by omega) (by omega) (by omega)
  unfold Tree.cells at hc
  have hc' : run kt (.func 34 [] []) [.agg t.t37.enc, .v (.int .i64 3000), .v (.int .i64 60)] St0 = _ := hc
  rw [hc']
  simp only [Option.bind_some, openInt_v]
  by_cases hbig : cntM t 3000 60 > 3000
  · rw [if_pos (by simpa using hbig)]
    simp only [Option.bind_some, openHd_v, openBool_v, if_true]
    exact ⟨_, rfl⟩
  rw [if_neg (by simpa using hbig)]
  have hlf := leaf_spec t St0
  unfold Tree.cells at hlf
  rw [hlf]
  simp only [Option.bind_some, openBool_v, openHd_v]
  by_cases hk : t.kind = 0
  · rw [if_pos (by simpa using hk)]
    exact ⟨_, rfl⟩
  rw [if_neg (by simpa using hk)]
  have hsz : tsize t ≤ 3000 := by
    have := cntM_size t 3000 60 (by omega) (by omega)
    omega
  have hn36 := run36 (.agg t.t37.enc) t hsz (tree_ws t)
  rw [hn36]
  simp only [Option.bind_some, openInt_v]
  -- the tree turned round
  have hfl : St0.floor ≤ St0.next := Nat.le_refl _
  rw [store_new sz37 (by decide) hfl rfl rfl]
  have hst : ∀ {Z : Type} (K : St → Option Z), storeK (kt.at 9) 35 (.ptr (St.next St0) 10) (.v (.slice none 0 0)) (St.put (St.alloc St0 (.cells [.v (.int .i64 0), .v (.int .i64 0), .v (.int .u32 0), .v (.int .u32 0), .v (.int .u32 0), .v (.int .u32 0), .v (.int .i64 0), .v (.int .i64 0), .v (.int .i64 0), .v (.int .i64 0), .v (.slice none 0 0)])) St0.next (.cells t.t37.enc)) K = K (St.put (St.put (St.alloc St0 (.cells [.v (.int .i64 0), .v (.int .i64 0), .v (.int .u32 0), .v (.int .u32 0), .v (.int .u32 0), .v (.int .u32 0), .v (.int .i64 0), .v (.int .i64 0), .v (.int .i64 0), .v (.int .i64 0), .v (.slice none 0 0)])) St0.next (.cells t.t37.enc)) 0 (.cells (hd10 t ++ [.v (.slice none 0 0)]))) := by
    intro Z K
    rw [enc_hd]
    simp [storeK, sz35, cellsK, single, flatV, St.put, St.alloc, St0, hd10, splice]
  rw [hst]
  have hback : Back t [] (St.put (St.put (St.alloc St0 (.cells [.v (.int .i64 0), .v (.int .i64 0), .v (.int .u32 0), .v (.int .u32 0), .v (.int .u32 0), .v (.int .u32 0), .v (.int .i64 0), .v (.int .i64 0), .v (.int .i64 0), .v (.int .i64 0), .v (.slice none 0 0)])) St0.next (.cells t.t37.enc)) 0 (.cells (hd10 t ++ [.v (.slice none 0 0)]))) :=
    ⟨rfl, Nat.zero_lt_one, _, by simp [St.put], .inl ⟨rfl, rfl⟩⟩
  generalize (St.put (St.put (St.alloc St0 _) St0.next (.cells t.t37.enc)) 0 (.cells (hd10 t ++ [.v (.slice none 0 0)]))) = S0 at hback
  rw [t37_l, len_sl (P_kt 9) Tryz.underlying35]
  simp only [Option.bind_some, openInt_v]
  obtain ⟨a, k, ty, op, off, l⟩ := t
  rw [tsize] at hsz
  have hk : ¬ k = 0 := hk
  have hll := tsizes_len l
  have hneed : need (.mk a k ty op off l) = needF (l.map need) := by
    rw [need, if_neg hk, needs_eq]
  have hnn : ∀ x ∈ l.map need, 0 ≤ x := fun x hx => by
    obtain ⟨t, ht, rfl⟩ := List.mem_map.1 hx
    exact (need_bound t).1
  obtain ⟨hN1, hN2, hN3⟩ := needF_bounds _ hnn
  have hsum3 : (l.map need).sum ≤ 3000 := by
    have : ∀ l : List Tree, (l.map need).sum ≤ tsizes l := by
      intro l
      induction l with
      | nil => simp [tsizes]
      | cons t r ih => have := need_bound t; simp [tsizes]; omega
    have := this l
    omega
  simp only [Tree.l] at *
  rw [wrap_in (a := (l.length : Int) - 1) (by omega) (by omega)]
  simp only [show St.next St0 = 0 from rfl]
  generalize hF : (fun vs0 S1 => _ : List SV → St → Option (Ex × List SV × St)) = F
  have loop : ∀ (n : Nat), n ≤ l.length → ∀ (M : Nat) (S1 : St), n < M → Back (.mk a k ty op off l) (l.drop n).reverse S1 → ∃ S2,
      iter F M [.v (.bool false), .v (.int .i64 (((l.drop n).map need).sum)), .v (.int .i64 ((n : Int) - 1))] S1 = some (.exit 0, [.v (.bool false), .v (.int .i64 ((l.map need).sum)), .v (.int .i64 (-1))], S2) ∧ Back (.mk a k ty op off l) l.reverse S2 := by
    intro n
    induction n with
    | zero =>
      intro _ M S1 hM hb
      obtain ⟨M, rfl⟩ : ∃ m, M = m + 1 := ⟨M - 1, by omega⟩
      refine ⟨S1, ?_, by simpa using hb⟩
      rw [iter_exit (F := F) (i := 0) (vs' := [.v (.bool false), .v (.int .i64 ((l.map need).sum)), .v (.int .i64 (-1))]) (S' := S1) (by
        rw [← hF]
        simp only [openHd_v, openInt_v, openBool_v, splitB_if, List.drop_zero]
        rw [if_neg (by simp)]
        simp)]
    | succ n ih =>
      intro hn M S1 hM hb
      obtain ⟨M, rfl⟩ : ∃ m, M = m + 1 := ⟨M - 1, by omega⟩
      have hlt : n < l.length := by omega
      have hdrop : l.drop n = l[n] :: l.drop (n + 1) := by rw [List.drop_eq_getElem_cons hlt]
      have hx : l[n] ∈ l := List.getElem_mem hlt
      have hxs := tsize_mem hx
      have hb0 := need_bound l[n]
      have hsd : 0 ≤ ((l.drop (n + 1)).map need).sum ∧ ((l.drop (n + 1)).map need).sum ≤ 3000 := by
        constructor
        · exact sum_nonneg _ (fun x hx => hnn x (by
            obtain ⟨t, ht, rfl⟩ := List.mem_map.1 hx
            exact List.mem_map_of_mem (List.mem_of_mem_drop ht)))
        · have h1 : (l.map need).sum = ((l.take (n + 1)).map need).sum + ((l.drop (n + 1)).map need).sum := by
            rw [← List.sum_append, ← List.map_append, List.take_append_drop]
          have h2 : 0 ≤ ((l.take (n + 1)).map need).sum := sum_nonneg _ (fun x hx => hnn x (by
            obtain ⟨t, ht, rfl⟩ := List.mem_map.1 hx
            exact List.mem_map_of_mem (List.mem_of_mem_take ht)))
          omega
      obtain ⟨y, y', S2, S3, g1, g2, g3, g4, g5, g6⟩ := back_append (x := l[n]) hb (by simp; omega)
      have hdone : (l.drop (n + 1)).reverse ++ [l[n]] = (l.drop n).reverse := by rw [hdrop, List.reverse_cons]
      rw [hdone] at g6
      obtain ⟨S4, h5, h6⟩ := ih (by omega) M S3 (by omega) g6
      refine ⟨S4, ?_, h6⟩
      have hle : need l[n] ≤ needF (l.map need) := hN3 _ (List.mem_map_of_mem hx)
      have step : iter F (M + 1) [.v (.bool false), .v (.int .i64 (((l.drop (n + 1)).map need).sum)), .v (.int .i64 (((n + 1 : Nat) : Int) - 1))] S1 = iter F M [.v (.bool false), .v (.int .i64 (((l.drop n).map need).sum)), .v (.int .i64 ((n : Int) - 1))] S3 := by
        refine iter_normal (F := F) ?_
        rw [← hF]
        simp only [openHd_v, openInt_v, openBool_v, splitB_if]
        rw [show (((n + 1 : Nat) : Int) - 1) = (n : Int) by omega, if_pos (by simp), index_sl (P_kt 9) Tryz.underlying35 size37 Tree.cells Tree.cells_len l n hlt]
        simp only [Option.bind_some]
        rw [show openCp cd37 (.cp l[n].cells) = openCp cd37 (.cp l[n].t37.enc) from rfl, openCp37]
        rw [run36 (.agg l[n].t37.enc) l[n] (by omega) (tree_ws _)]
        simp only [Option.bind_some, openInt_v, hneed]
        rw [if_neg (by simp; omega)]
        simp only [Option.bind_some, openHd_v, openBool_v]
        rw [if_neg (by simp; omega), if_pos hb.2.1, g1]
        simp only [Option.bind_some]
        rw [openCp37, g2]
        simp only [Option.bind_some]
        rw [g4, if_pos g5]
        rw [wrap_in (by omega) (by omega), wrap_in (by omega) (by omega), hdrop]
        simp only [List.map_cons, List.sum_cons]
        rw [Int.add_comm]
      rw [step]
      exact h5
  obtain ⟨S2, h1, h2⟩ := loop l.length (Nat.le_refl _) 5000 S0 (by omega) (by simpa using hback)
  have h1 : iter F 5000 [.v (.bool false), .v (.int .i64 0), .v (.int .i64 ((l.length : Int) - 1))] S0 = some (.exit 0, [.v (.bool false), .v (.int .i64 ((l.map need).sum)), .v (.int .i64 (-1))], S2) := by
    rw [← h1]; simp
  rw [h1]
  simp only [Option.bind_some, openHd_v, openInt_v, openBool_v, exits_exit, if_true, hneed]
  rw [if_pos (by simpa using hN1), if_pos (by simp only [decide_eq_true_eq]; split <;> omega)]
  obtain ⟨cs, g1, g2, g3⟩ := back_ws h2
  rw [g1]
  simp only [Option.bind_some]
  rw [openAgg_dec g2, dec_enc37 g2]
  have hsr : tsize ((Tree.mk a k ty op off l).withL l.reverse) ≤ 3000 := by
    have : ∀ l m : List Tree, l.Perm m → tsizes l = tsizes m := by
      intro l m h
      induction h with
      | nil => rfl
      | cons x _ ih => simp [tsizes, ih]
      | swap x y l => simp [tsizes]; omega
      | trans _ _ h1 h2 => omega
    have := this l.reverse l (List.reverse_perm l)
    simp [Tree.withL, tsize]; omega
  rw [run36 (.agg cs) _ hsr g3]
  simp only [Option.bind_some, openInt_v]
  have : need ((Tree.mk a k ty op off l).withL l.reverse) = needF (l.map need) := by
    simp only [Tree.withL, Tree.kind, need]
    rw [if_neg hk, needs_eq, needF, needF, List.map_reverse, sortD_perm_eq (List.reverse_perm _)]
  rw [this]
  exact ⟨S2, by simp⟩
end Go.Sv
