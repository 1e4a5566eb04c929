/- Parts of the proofs of this seat's laws. -/
import Derived.Test.YtkflapebfmcmaaaGreatBOnce49
section
namespace Go.Sv
open Go Go.Proofs Go.Proofs.YtkflapebfmcmaaaGreat
set_option linter.all false
set_option maxRecDepth 100000

theorem bytes26 : bytes? (kt.at 26) 28 = some 32 := by kernel_rfl
theorem zero26 : ∃ z, zero? (kt.at 26) 28 = some z ∧ z.length = 6 := zlenU (by kernel_rfl)
set_option maxHeartbeats 1000000 in
theorem spec26 (b : Block) (t : Int) (hL : b.l.length ≤ 1000000) (hB : ∀ s ∈ b.l, s.l.length ≤ 190000 ∧ s.e.l.length ≤ 190000) (S : St) : run kt (.func 26 [] []) [.agg b.t31.enc, .v (.int .i64 t)] S = some (.v (.int .i64 (usesM b t)), S) := by
  refine closed_int h26 2000000 rfl (fn_kt 26 fn26) rfl ?_
  simp only [List.map_cons, List.map_nil, block_ws, int_ws]
  rw [tell26]
  obtain ⟨z, hz, hzl⟩ := zero26
  have he : elem? (kt.at 26) 53 = some 28 := elem_of (P_kt 26) Tryz.underlying53
  have hs := size28k (P_kt 26)
  simp only [splitB_dec]
  rw [show b.t31.l = stmts b.l from rfl]
  generalize hF : (fun vs0 S1 => _ : List SV → St → Option (Ex × List SV × St)) = F
  have hsum : ∀ i, ((b.l.take i).map fun s => cntA (s.e.l ++ s.l) t).sum ≤ i * 380000 := by
    intro i
    have : ∀ l : List Stmt, (∀ s ∈ l, s.l.length ≤ 190000 ∧ s.e.l.length ≤ 190000) → (l.map fun s => cntA (s.e.l ++ s.l) t).sum ≤ l.length * 380000 := by
      intro l
      induction l with
      | nil => intro _; simp
      | cons s r ih =>
        intro h
        have h1 := ih fun s hs => h s (by simp [hs])
        have h2 := h s (by simp)
        have h3 := cntA_le (s.e.l ++ s.l) t
        rw [List.length_append] at h3
        simp only [List.map_cons, List.sum_cons, List.length_cons]
        omega
    have h1 := this (b.l.take i) fun s hs => hB s (List.mem_of_mem_take hs)
    have h2 : (b.l.take i).length ≤ i := by rw [List.length_take]; exact Nat.min_le_left _ _
    exact Nat.le_trans h1 (Nat.mul_le_mul_right _ h2)
  obtain ⟨vs, S', h1, hf, rfl⟩ := iter_inv 0 (F := F) b.l.length
    (fun i vs S => S.floor = 0 ∧ vs = [.v (.int .i64 ((((b.l.take i).map fun s => cntA (s.e.l ++ s.l) t).sum : Nat) : Int)), .v (.int .i64 (i : Int))])
    (fun i hi vs S hI => by
      obtain ⟨hf, rfl⟩ := hI
      have hb := hB b.l[i] (List.getElem_mem hi)
      have hsi := hsum i
      generalize hsx : b.l[i] = s at hb
      rw [← hF]
      simp only [openHd_v, openInt_v, len_stmts (P_kt 26), Option.bind_some]
      rw [if_pos (by omega), index_stmts (P_kt 26) .i64 b.l i hi, hsx]
      simp only [Option.bind_some, openCp57']
      obtain ⟨y1, S1, a1, o1, f1, n1⟩ := own_append ac_len he hs bytes26 hz (by decide) (by decide) hzl (by decide) (own0 ac 6 (S := S) (by omega)) s.e.l (by simp only [room, List.length_nil]; omega)
      rw [List.nil_append] at o1
      rw [show appendE (kt.at 26) 53 .emp s.t57.e_L S = some (y1, S1) from a1]
      simp only [Option.bind_some]
      obtain ⟨y2, S2, a2, o2, f2, n2⟩ := own_append ac_len he hs bytes26 hz (by decide) (by decide) hzl (by decide) o1 s.l (by simp only [room]; omega)
      rw [show appendE (kt.at 26) 53 y1 s.t57.l S1 = some (y2, S2) from a2]
      simp only [Option.bind_some]
      generalize hG : (fun vs0 S1 => _ : List SV → St → Option (Ex × List SV × St)) = G
      generalize hacc : ((b.l.take i).map fun s => cntA (s.e.l ++ s.l) t).sum = acc at hsi
      have hll : (s.e.l ++ s.l).length ≤ 380000 := by rw [List.length_append]; omega
      obtain ⟨vs, S', g1, rfl, rfl⟩ := iter_inv 2 (F := G) (s.e.l ++ s.l).length
        (fun j vs S' => S' = S2 ∧ vs = [.v (.int .i64 ((acc : Int) + (cntA ((s.e.l ++ s.l).take j) t : Int))), .v (.int .i64 (j : Int))])
        (fun j hj vs S' hI => by
          obtain ⟨rfl, rfl⟩ := hI
          have hc := cntA_le ((s.e.l ++ s.l).take j) t
          have hc2 : ((s.e.l ++ s.l).take j).length ≤ j := by simp; omega
          rw [← hG]
          simp only [openHd_v, openInt_v, own_len (P_kt 26) Tryz.underlying53 o2, Option.bind_some]
          rw [if_pos (by omega), own_index (P_kt 26) Tryz.underlying53 size28' ac_len o2 j hj .i64]
          simp only [Option.bind_some, show openCp (Z := Ex × List SV × St) cd28 (.cp (ac (s.e.l ++ s.l)[j])) = openCp cd28 (.cp (s.e.l ++ s.l)[j].t28.enc) from rfl, openCp28']
          rw [wrap_in (a := (j : Int) + 1) (by omega) (by omega), wrap_in (a := (acc : Int) + _ + 1) (by omega) (by omega)]
          refine ⟨_, _, ?_, rfl, rfl⟩
          rw [List.take_succ_eq_append_getElem hj, cntA_append]
          have : cntA [(s.e.l ++ s.l)[j]] t = if (s.e.l ++ s.l)[j].tmp = t then 1 else 0 := by
            unfold cntA
            by_cases h : (s.e.l ++ s.l)[j].tmp = t <;> simp [List.filter_cons, h]
          rw [this]
          by_cases h : (s.e.l ++ s.l)[j].tmp = t
          · have h' : ((s.e.l ++ s.l)[j].t28.tmp == t) = true := by simpa [Atom.t28] using h
            rw [h', splitB_t, if_pos h]
            simp [Int.add_assoc]
          · have h' : ((s.e.l ++ s.l)[j].t28.tmp == t) = false := by simpa [Atom.t28] using h
            rw [h', splitB_f, if_neg h]
            simp)
        (fun vs S' hI => by
          obtain ⟨rfl, rfl⟩ := hI
          rw [← hG]
          simp only [openHd_v, openInt_v, own_len (P_kt 26) Tryz.underlying53 o2, Option.bind_some]
          rw [if_neg (by omega)])
        (s.e.l ++ s.l).length 0 rfl [.v (.int .i64 (acc : Int)), .v (.int .i64 0)] S2 2000000 ⟨rfl, by simp [cntA]⟩ (by omega)
      rw [g1]
      simp only [Option.bind_some, openHd_v, openInt_v, exits_exit, if_true]
      rw [wrap_in (by omega) (by omega)]
      refine ⟨_, _, rfl, by rw [f2, f1, hf], ?_⟩
      rw [List.take_length, List.take_succ_eq_append_getElem hi, hsx, List.map_append, List.sum_append, hacc]
      simp)
    (fun vs S hI => by
      obtain ⟨hf, rfl⟩ := hI
      rw [← hF]
      simp only [openHd_v, openInt_v, len_stmts (P_kt 26), Option.bind_some]
      rw [if_neg (by omega)])
    b.l.length 0 rfl [.v (.int .i64 0), .v (.int .i64 0)] St0 2000000 ⟨rfl, by simp⟩ (by omega)
  rw [h1]
  have hsi := hsum b.l.length
  rw [List.take_length] at hsi ⊢
  simp only [Option.bind_some, openHd_v, openInt_v, exits_exit, if_true]
  unfold usesM
  by_cases h : b.next.tmp = t
  · have h' : (b.t31.next_Tmp == t) = true := by simpa [Block.t31] using h
    rw [h', splitB_t, if_pos h, wrap_in (by omega) (by omega)]
    exact exI _ _
  · have h' : (b.t31.next_Tmp == t) = false := by simpa [Block.t31] using h
    rw [h', splitB_f, if_neg h]
    exact exI_eq (by simp)

/-! Lists that grow by lists. -/
theorem src_sl {α : Type} {f : α → List SV} {sz : Nat} (hfl : ∀ x, (f x).length = sz) (m : List α) (S : St) : srcCells (sl f m) S sz = some (m.length, m.flatMap f) := by
  have hml : (m.flatMap f).length = m.length * sz := flatMap_len f sz hfl m
  simp [srcCells, sl, hml]
theorem src_rd {α : Type} {f : α → List SV} {sz : Nat} (hfl : ∀ x, (f x).length = sz) {m : List α} {y : SV} (h : Rd' f m y) (S : St) : srcCells y S sz = some (m.length, m.flatMap f) := by
  have hml : (m.flatMap f).length = m.length * sz := flatMap_len f sz hfl m
  rcases h with ⟨id, rfl⟩ | ⟨rfl, rfl | rfl⟩
  · simp [srcCells, hml]
  · rfl
  · rfl
theorem accL_more {α : Type} {f : α → List SV} {k : K} {t e : TypeId} {sz by_ : Nat} (hfl : ∀ x, (f x).length = sz) {z : List SV} (he : elem? k t = some e) (hs : size? k e = some sz) (hb : bytes? k e = some by_) (hz : zero? k e = some z) (h0 : sz ≠ 0) (h1 : by_ ≠ 0) (h2 : z.length = sz) (hbx : k.inBox e ≠ 1)
    {lo : Nat} {l : List α} {y : SV} {S : St} (h : AccL f sz lo l y S) (m : List α) {x : SV} (src : srcCells x S sz = some (m.length, m.flatMap f)) (hr : (l.length + m.length) * by_ ≤ room) :
    ∃ y' S', appendE k t y x S = some (y', S') ∧ AccL f sz lo (l ++ m) y' S' ∧ S'.floor = S.floor ∧ S.next ≤ S'.next ∧ (∀ b, b < lo → S'.get b = S.get b) ∧ ∀ c, c < S.next → (∀ m, S.get c ≠ .own sz m) → S'.get c = S.get c := by
  have hml : (m.flatMap f).length = m.length * sz := flatMap_len f sz hfl m
  have hbad : ¬ (sz = 0 ∨ by_ = 0 ∨ z.length ≠ sz) := by simp [h0, h1, h2]
  by_cases hm : m = []
  · subst hm
    refine ⟨y, S, ?_, by rw [List.append_nil]; exact h, rfl, Nat.le_refl _, fun _ _ => rfl, fun _ _ _ => rfl⟩
    simp only [appendE, he, hs, hb, hz, src, Option.bind_some, if_neg hbad, List.length_nil, if_true]
    rcases h.2.2 with ⟨_, rfl⟩ | ⟨b, rfl, _⟩ <;> rfl
  · have hm0 : m.length ≠ 0 := by simpa using hm
    obtain ⟨hf, hlo, h⟩ := h
    rcases h with ⟨rfl, rfl⟩ | ⟨b, rfl, hg, hbl, hbn, hbf⟩
    · refine ⟨.sl (some S.next) m.length (m.flatMap f), S.alloc (.own sz (m.flatMap f).length), ?_, ⟨by simp [St.alloc]; omega, by simp [St.alloc]; omega, .inr ⟨S.next, by simp, by simp [St.alloc, hml], by omega, by simp [St.alloc], by simp [St.alloc]; omega⟩⟩, rfl, by simp [St.alloc], fun b hb => get_new _ _ _ (by omega), fun c hc _ => get_new _ _ _ hc⟩
      simp only [appendE, he, hs, hb, hz, src, Option.bind_some, if_neg hbad, if_neg hm0, if_neg hbx]
      rw [if_pos (by simpa using hr)]
    · have hcl : (l.flatMap f).length = l.length * sz := flatMap_len f sz hfl l
      refine ⟨.sl (some S.next) (l.length + m.length) (l.flatMap f ++ m.flatMap f), (S.put b .dead).alloc (.own sz ((l.flatMap f).length + (m.flatMap f).length)), ?_, ⟨by simp [St.alloc, St.put]; omega, by simp [St.alloc, St.put]; omega, .inr ⟨S.next, by simp, by simp [St.alloc, St.put, hcl, hml, Nat.add_mul], by omega, by simp [St.alloc, St.put], by simp [St.alloc, St.put]; omega⟩⟩, rfl, by simp [St.alloc, St.put], fun c hc => ?_, fun c hc hne => ?_⟩
      · simp only [appendE, he, hs, hb, hz, src, Option.bind_some, if_neg hbad, if_neg hm0, hg]
        rw [if_pos ⟨hbf, trivial, hcl, hcl, hr, hbx⟩]
      · rw [get_new _ _ _ (by simp [St.put]; omega), get_put _ _ _ _ (by omega)]
      · have : c ≠ b := by rintro rfl; exact hne _ hg
        rw [get_new _ _ _ (by simp [St.put]; exact hc), get_put _ _ _ _ this]

/-! The leaves of a tree. -/
mutual
def leavesT : Tree → List Atom
  | .mk a k _ _ _ l => if k = 0 then [a] else leavesL l
def leavesL : List Tree → List Atom
  | [] => []
  | t :: r => leavesT t ++ leavesL r
end
theorem leavesL_flat : ∀ l : List Tree, leavesL l = l.flatMap leavesT
  | [] => rfl
  | t :: r => by rw [leavesL, leavesL_flat r]; rfl
theorem leavesL_mem : ∀ {l : List Tree} {t : Tree}, t ∈ l → (leavesT t).length ≤ (leavesL l).length
  | x :: r, t, h => by
    rw [leavesL, List.length_append]
    rcases List.mem_cons.1 h with rfl | h
    · omega
    · have := leavesL_mem h; omega
theorem leavesL_take (l : List Tree) (i : Nat) : (leavesL (l.take i)).length ≤ (leavesL l).length := by
  have : leavesL l = leavesL (l.take i) ++ leavesL (l.drop i) := by
    rw [leavesL_flat, leavesL_flat, leavesL_flat, ← List.flatMap_append, List.take_append_drop]
  rw [this, List.length_append]; omega
theorem leavesL_snoc (l : List Tree) (t : Tree) : leavesL (l ++ [t]) = leavesL l ++ leavesT t := by simp [leavesL_flat]
theorem bytes84 : ∃ n, bytes? (kt.at 84) 28 = some n ∧ n ≠ 0 ∧ n ≤ 1000 := bytesU (by kernel_rfl)
theorem zero84 : ∃ z, zero? (kt.at 84) 28 = some z ∧ z.length = 6 := zlenU (by kernel_rfl)

theorem spec84 (t : Tree) : TB t → (leavesT t).length ≤ 1000000 → ∀ S : St, S.floor ≤ S.next → ∃ y S', run kt (.func 84 [] []) [.agg t.cells] S = some (y, S') ∧ AccL ac 6 S.next (leavesT t) y S' ∧ S'.floor = S.floor ∧ S.next ≤ S'.next ∧ ∀ c, c < S.next → S'.get c = S.get c := by
  induction t using Tree.ind with
  | h a k ty op off l ih =>
    intro hb hn S hfl
    rw [TB] at hb
    suffices ∃ y S', cBody (kt.at 84) h84 (run kt) 2000000 (compF Tryz.f84) [.agg (Tree.mk a k ty op off l).cells] S = some (y, S') ∧ AccL ac 6 S.next (leavesT (Tree.mk a k ty op off l)) y S' ∧ S'.floor = S.floor ∧ S.next ≤ S'.next ∧ ∀ c, c < S.next → S'.get c = S.get c by
      obtain ⟨y, S', h1, h2⟩ := this
      exact ⟨y, S', go_plain ks_kt (f := 84) (fst := []) (cap := []) (args := [.agg (Tree.mk a k ty op off l).cells]) (S := S) h84 2000000 rfl (fn_kt 84 fn84) rfl h1, h2⟩
    have e0 := tell84 2000000 (Tree.mk a k ty op off l).t37 S
    rw [show T37.enc (Tree.mk a k ty op off l).t37 = (Tree.mk a k ty op off l).cells from rfl] at e0
    rw [e0, leaf_spec]
    clear e0
    simp only [Option.bind_some, openBool_v]
    rw [leavesT] at hn ⊢
    by_cases hk : k = 0
    · have e : ((Tree.mk a k ty op off l).kind == 0) = true := by simp [Tree.kind, hk]
      rw [e, splitB_t, if_pos hk]
      exact ⟨_, _, rfl, ⟨by simp [St.alloc]; omega, by simp [St.alloc], .inr ⟨S.next, rfl, by simp [St.alloc], Nat.le_refl _, by simp [St.alloc], by simp [St.alloc]; omega⟩⟩, rfl, by simp [St.alloc], fun c hc => get_new _ _ _ hc⟩
    · have e : ((Tree.mk a k ty op off l).kind == 0) = false := by simpa [Tree.kind] using hk
      rw [e, splitB_f, if_neg hk]
      rw [if_neg hk] at hn
      rw [t37_l, show (Tree.mk a k ty op off l).l = l from rfl]
      simp only [len_sl' (P_kt 84) Tryz.underlying35, Option.bind_some, openInt_v, splitB_dec]
      obtain ⟨bt, hbt, bt0, bt1⟩ := bytes84
      obtain ⟨zt, hzt, ztl⟩ := zero84
      generalize hF : (fun vs0 S1 => _ : List SV → St → Option (Ex × List SV × St)) = F
      obtain ⟨vs, S3, h3, y, rfl, hy, c1, c2, c3⟩ := iter_inv 0 (F := F) l.length (fun i vs S' => ∃ y, vs = [y, .v (.int .i64 (i : Int))] ∧ AccL ac 6 S.next (leavesL (l.take i)) y S' ∧ S'.floor = S.floor ∧ S.next ≤ S'.next ∧ ∀ c, c < S.next → S'.get c = S.get c)
        (fun i hi vs S' hI => by
          obtain ⟨y, rfl, hy, c1, c2, c3⟩ := hI
          have hlt : ((i : Nat) : Int) < ((l.length : Nat) : Int) := by omega
          have hm := leavesL_mem (List.getElem_mem hi)
          have ht := leavesL_take l (i + 1)
          rw [List.take_succ_eq_append_getElem hi, leavesL_snoc] at ht ⊢
          rw [← hF]
          simp only [openHd_v, openInt_v]
          rw [if_pos hlt, index_sl (P_kt 84) Tryz.underlying35 size37 Tree.cells Tree.cells_len l i hi]
          simp only [Option.bind_some, openCp37']
          obtain ⟨y1, S1, r1, r2, d1, d2, d3⟩ := ih l[i] (List.getElem_mem hi) (TBl_mem hb.2 _ (List.getElem_mem hi)) (by omega) S' (by omega)
          rw [show T37.enc l[i].t37 = l[i].cells from rfl, r1]
          simp only [Option.bind_some]
          rw [List.length_append] at ht
          have hy1 : AccL ac 6 S.next (leavesL (l.take i)) y S1 := accL_keep hy d1 d2 fun c _ hc => d3 c hc
          obtain ⟨y', S'', a1, a2, a3, a4, a5, _⟩ := accL_more ac_len (elem_of (P_kt 84) Tryz.underlying53) (size28k (P_kt 84)) hbt hzt (by decide) bt0 ztl (by decide) hy1 (leavesT l[i]) (src_rd ac_len (accL_rd r2) _) (room1 _ _ (by omega) bt1)
          rw [a1, Option.bind_some]
          rw [wrap_in (by omega) (by omega)]
          exact ⟨_, S'', rfl, y', rfl, a2, by omega, by omega, fun c hc => by rw [a5 c hc, d3 c (by omega), c3 c hc]⟩)
        (fun vs S' hI => by
          obtain ⟨y, rfl, _⟩ := hI
          rw [← hF]
          simp only [openHd_v, openInt_v]
          rw [if_neg (by omega)])
        l.length 0 rfl [.v (.slice none 0 0), .v (.int .i64 0)] S 2000000 ⟨_, rfl, by rw [List.take_zero]; exact accL0 _ _ _ hfl (Nat.le_refl _), rfl, Nat.le_refl _, fun _ _ => rfl⟩ (by omega)
      rw [h3]
      rw [List.take_length] at hy
      simp only [Option.bind_some, openHd_v, openInt_v, exits_exit, if_true]
      exact ⟨y, S3, rfl, hy, c1, c2, c3⟩

/-! The trees of a statement. -/
def partsT (s : TStmt) : List Tree := if s.kind = 2 then s.e :: s.l else s.l
theorem bytes32 : ∃ n, bytes? (kt.at 32) 37 = some n ∧ n ≠ 0 ∧ n ≤ 1000 := bytesU (by kernel_rfl)
theorem zero32 : ∃ z, zero? (kt.at 32) 37 = some z ∧ z.length = 11 := zlenU (by kernel_rfl)
theorem spec32 (s : TStmt) (hl : s.l.length ≤ 900000) (S : St) : run kt (.func 32 [] []) [.agg (tsc s)] S = some (sl Tree.cells (partsT s), S) := by
  suffices ∃ y S2, cBody (kt.at 32) h32 (run kt) 0 (compF Tryz.f32) [.agg (tsc s)] St0 = some (y, S2) ∧ Rd' Tree.cells (partsT s) y by
    obtain ⟨y, S2, h1, h2⟩ := this
    have hw : weak (shut (.agg (tsc s))) = .agg (tsc s) := tstmt_ws s
    have := go_closed ks_kt (f := 32) (fst := []) (cap := []) (args := [.agg (tsc s)]) (S := S) h32 0 rfl (fn_kt 32 fn32) rfl (z := (y, S2)) (by
      simp only [List.nil_append, List.append_nil, List.map_cons, List.map_nil, hw]
      exact h1)
    rw [rd_erase cl_tree h2 S2] at this
    exact this
  have e0 := tell32 0 s.t59
  rw [show T59.enc s.t59 = tsc s from rfl] at e0
  rw [e0, tstmt_e, show s.t59.kind = s.kind from rfl, show s.t59.l = sl Tree.cells s.l from rfl]
  clear e0
  obtain ⟨bt, hbt, bt0, bt1⟩ := bytes32
  obtain ⟨zt, hzt, ztl⟩ := zero32
  unfold partsT
  by_cases hk : s.kind = 2
  · have e : (s.kind == 2) = true := by simpa using hk
    rw [e, splitB_t, if_pos hk]
    have h1 : AccL Tree.cells 11 0 [s.e] (.sl (some 1) 1 s.e.cells) ((St0.alloc (.own 11 11)).alloc (.own 11 11)) := by
      refine ⟨Nat.zero_le _, Nat.zero_le _, .inr ⟨1, by simp, ?_, Nat.zero_le _, ?_, Nat.zero_le _⟩⟩
      · simp [St.alloc, St0]
      · show 1 < 2; decide
    obtain ⟨y', S', a1, a2, _⟩ := accL_more Tree.cells_len (elem_of (P_kt 32) Tryz.underlying35) (sz37' (P_kt 32)) hbt hzt (by decide) bt0 ztl (by decide) h1 s.l (src_sl Tree.cells_len _ _) (room1 _ _ (by simp; omega) bt1)
    rw [a1, Option.bind_some]
    exact ⟨_, _, rfl, accL_rd a2⟩
  · have e : (s.kind == 2) = false := by simpa using hk
    rw [e, splitB_f, if_neg hk]
    obtain ⟨y', S', a1, a2, _⟩ := accL_more Tree.cells_len (elem_of (P_kt 32) Tryz.underlying35) (sz37' (P_kt 32)) hbt hzt (by decide) bt0 ztl (by decide) (accL0 Tree.cells 11 0 (S := St0) (Nat.zero_le _) (Nat.zero_le _)) s.l (src_sl Tree.cells_len _ _) (room1 _ _ (by simp; omega) bt1)
    rw [a1, Option.bind_some]
    exact ⟨_, _, rfl, accL_rd a2⟩

/-! Whether a temporary is used in a block of trees. -/
def allL (b : TBlock) : List Atom := leavesT b.next ++ b.l.flatMap fun s => leavesL (partsT s)
def withinM (b : TBlock) (t : Int) : Bool := (allL b).any fun a => a.tmp == t
theorem bytes27 : ∃ n, bytes? (kt.at 27) 28 = some n ∧ n ≠ 0 ∧ n ≤ 1000 := bytesU (by kernel_rfl)
theorem zero27 : ∃ z, zero? (kt.at 27) 28 = some z ∧ z.length = 6 := zlenU (by kernel_rfl)
theorem flat_take {α β : Type} (f : α → List β) (l : List α) (i : Nat) : ((l.take i).flatMap f).length ≤ (l.flatMap f).length := by
  have : l.flatMap f = (l.take i).flatMap f ++ (l.drop i).flatMap f := by rw [← List.flatMap_append, List.take_append_drop]
  rw [this, List.length_append]; omega
theorem parts_TB {s : TStmt} (h : TBs s) : ∀ t ∈ partsT s, TB t := by
  unfold partsT
  split
  · intro t ht
    rcases List.mem_cons.1 ht with rfl | ht
    · exact h.1
    · exact h.2 t ht
  · exact h.2
theorem parts_len (s : TStmt) : (partsT s).length ≤ s.l.length + 1 := by
  unfold partsT; split <;> simp

set_option maxHeartbeats 1000000 in
theorem spec27 (b : TBlock) (t : Int) (h : BT b) (hl : ∀ s ∈ b.l, s.l.length ≤ 900000) (hn : (allL b).length ≤ 900000) (S : St) : run kt (.func 27 [] []) [.agg b.t39.enc, .v (.int .i64 t)] S = some (.v (.bool (withinM b t)), S) := by
  refine closed_bool h27 2000000 rfl (fn_kt 27 fn27) rfl ?_
  simp only [List.map_cons, List.map_nil, tblock_ws, int_ws]
  rw [tell27]
  rw [show [(SV.v (.int .i64 b.t39.next_A_Tmp)), (.v (.int .i64 b.t39.next_A_Ty)), (.v (.int .u32 b.t39.next_A_C0)), (.v (.int .u32 b.t39.next_A_C1)), (.v (.int .u32 b.t39.next_A_C2)), (.v (.int .u32 b.t39.next_A_C3)), (.v (.int .i64 b.t39.next_Kind)), (.v (.int .i64 b.t39.next_Ty)), (.v (.int .i64 b.t39.next_Op)), (.v (.int .i64 b.t39.next_Off)), b.t39.next_L] = b.next.cells by rw [cells_eq]; rfl]
  rw [show b.t39.l = sl tsc b.l from rfl]
  have hn0 : (leavesT b.next).length + (b.l.flatMap fun s => leavesL (partsT s)).length ≤ 900000 := by
    have := hn
    unfold allL at this
    rwa [List.length_append] at this
  obtain ⟨y0, S0, r1, r2, _⟩ := spec84 b.next h.nx (by omega) St0 (Nat.zero_le _)
  rw [r1]
  have hbl := h.l
  obtain ⟨bt, hbt, bt0, bt1⟩ := bytes27
  obtain ⟨zt, hzt, ztl⟩ := zero27
  simp only [Option.bind_some, len_sl' (P_kt 27) Tryz.underlying34, openInt_v, splitB_dec]
  generalize hF : (fun vs0 S1 => _ : List SV → St → Option (Ex × List SV × St)) = F
  obtain ⟨vs, S3, h3, y, rfl, hy⟩ := iter_inv 0 (F := F) b.l.length (fun i vs S' => ∃ y, vs = [y, .v (.int .i64 (i : Int))] ∧ AccL ac 6 0 (leavesT b.next ++ (b.l.take i).flatMap fun s => leavesL (partsT s)) y S')
    (fun i hi vs S' hI => by
      obtain ⟨y, rfl, hy⟩ := hI
      have hlt : ((i : Nat) : Int) < ((b.l.length : Nat) : Int) := by omega
      have ix : indexAddrE (kt.at 27) 34 (sl tsc b.l) (.v (.int .i64 (i : Int))) = some (.cp (tsc b.l[i])) := index_sl (P_kt 27) Tryz.underlying34 size59' tsc tsc_len b.l i hi .i64
      have hs := h.st _ (List.getElem_mem hi)
      have hsl := hl _ (List.getElem_mem hi)
      have ht := flat_take (fun s => leavesL (partsT s)) b.l (i + 1)
      rw [List.take_succ_eq_append_getElem hi, List.flatMap_append, List.flatMap_cons, List.flatMap_nil, List.append_nil] at ht ⊢
      rw [List.length_append] at ht
      rw [← hF]
      simp only [openHd_v, openInt_v]
      rw [if_pos hlt]
      simp only [ix, Option.bind_some, openCp59']
      rw [show T59.enc b.l[i].t59 = tsc b.l[i] from rfl, spec32 b.l[i] hsl]
      have hpt := parts_TB hs.1
      have hpl := parts_len b.l[i]
      generalize partsT b.l[i] = ps at ht hpt hpl
      generalize hA : leavesT b.next ++ (b.l.take i).flatMap (fun s => leavesL (partsT s)) = A at hy
      have hAl : A.length + (leavesL ps).length ≤ 900000 := by rw [← hA, List.length_append]; omega
      simp only [Option.bind_some, len_sl' (P_kt 27) Tryz.underlying35, openInt_v]
      generalize hG : (fun vs0 S1 => _ : List SV → St → Option (Ex × List SV × St)) = G
      obtain ⟨vs, S4, h4, y2, rfl, hy2⟩ := iter_inv 2 (F := G) ps.length (fun k vs S' => ∃ y, vs = [y, .v (.int .i64 (k : Int))] ∧ AccL ac 6 0 (A ++ leavesL (ps.take k)) y S')
        (fun k hk vs S' hI => by
          obtain ⟨y, rfl, hy⟩ := hI
          have hlt : ((k : Nat) : Int) < ((ps.length : Nat) : Int) := by omega
          have hm := leavesL_mem (List.getElem_mem hk)
          have ht := leavesL_take ps (k + 1)
          rw [List.take_succ_eq_append_getElem hk, leavesL_snoc] at ht ⊢
          rw [List.length_append] at ht
          rw [← hG]
          simp only [openHd_v, openInt_v]
          rw [if_pos hlt, index_sl (P_kt 27) Tryz.underlying35 size37 Tree.cells Tree.cells_len ps k hk]
          simp only [Option.bind_some, openCp37']
          obtain ⟨y1, S1, r1, r2, d1, d2, d3⟩ := spec84 ps[k] (hpt _ (List.getElem_mem hk)) (by omega) S' hy.1
          rw [show T37.enc ps[k].t37 = ps[k].cells from rfl, r1]
          simp only [Option.bind_some]
          have hy1 := accL_keep hy d1 d2 fun c _ hc => d3 c hc
          obtain ⟨y', S'', a1, a2, _⟩ := accL_more ac_len (elem_of (P_kt 27) Tryz.underlying53) (size28k (P_kt 27)) hbt hzt (by decide) bt0 ztl (by decide) hy1 (leavesT ps[k]) (src_rd ac_len (accL_rd r2) _) (room1 _ _ (by rw [List.length_append]; omega) bt1)
          rw [a1, Option.bind_some]
          rw [wrap_in (by omega) (by omega)]
          refine ⟨_, _, rfl, y', rfl, ?_⟩
          rw [← List.append_assoc]
          exact a2)
        (fun vs S' hI => by
          obtain ⟨y, rfl, _⟩ := hI
          rw [← hG]
          simp only [openHd_v, openInt_v]
          rw [if_neg (by omega)])
        ps.length 0 rfl [y, .v (.int .i64 0)] S' 2000000 ⟨_, rfl, by simpa [leavesL] using hy⟩ (by omega)
      rw [h4]
      rw [List.take_length] at hy2
      simp only [Option.bind_some, openHd_v, openInt_v, exits_exit, if_true]
      rw [wrap_in (by omega) (by omega)]
      refine ⟨_, _, rfl, y2, rfl, ?_⟩
      rw [← List.append_assoc, hA]
      exact hy2)
    (fun vs S' hI => by
      obtain ⟨y, rfl, _⟩ := hI
      rw [← hF]
      simp only [openHd_v, openInt_v]
      rw [if_neg (by omega)])
    b.l.length 0 rfl [y0, .v (.int .i64 0)] S0 2000000 ⟨_, rfl, by rw [List.take_zero, List.flatMap_nil, List.append_nil]; exact accL_keep r2 rfl (Nat.le_refl _) fun _ _ _ => rfl⟩ (by omega)
  rw [h3]
  rw [List.take_length] at hy
  have hy : AccL ac 6 0 (allL b) y S3 := hy
  simp only [Option.bind_some, openHd_v, openInt_v, exits_exit, if_true]
  simp only [rd_len (P_kt 27) Tryz.underlying53 (accL_rd hy), Option.bind_some, openInt_v]
  generalize hH : (fun vs0 S1 => _ : List SV → St → Option (Ex × List SV × St)) = H
  have main := iter_anyS 4 (F := H) (allL b) (fun i => [.v (.bool false), .v (.int .i64 (i : Int))]) (fun S => S = S3) (fun S => S = S3) (fun a => a.tmp == t) (fun i => [.v (.bool true), .v (.int .i64 (i : Int))])
    (fun i hi S' hS => by
      subst hS
      have hlt : ((i : Nat) : Int) < (((allL b).length : Nat) : Int) := by omega
      have e : H [.v (.bool false), .v (.int .i64 (i : Int))] S' = splitB (.v (.bool ((allL b)[i].tmp == t))) (some (.ret, ([(.v (.bool true)), (.v (.int .i64 (i : Int)))], S'))) (some (.normal, ([(.v (.bool false)), (.v (.int .i64 (((i + 1 : Nat) : Int))))], S'))) := by
        rw [← hH]
        simp only [openHd_v, openInt_v, openBool_v]
        rw [if_pos hlt, rd_index (P_kt 27) Tryz.underlying53 size28' ac_len (accL_rd hy) i hi .i64]
        simp only [Option.bind_some, show ∀ (K : cd28.α → Option (Ex × List SV × St)), openCp cd28 (.cp (ac (allL b)[i])) K = K (allL b)[i].t28 from fun K => rfl]
        rw [wrap_in (by omega) (by omega)]
        rfl
      rw [e]
      cases hc : ((allL b)[i].tmp == t) with
      | true => rw [if_pos rfl, splitB_t]; exact ⟨_, rfl, rfl⟩
      | false => rw [if_neg (by decide), splitB_f]; exact ⟨_, rfl, rfl⟩)
    (fun S' hS => by
      subst hS
      rw [← hH]
      simp only [openHd_v, openInt_v, openBool_v]
      rw [if_neg (by omega)]) (M := 2000000) (by omega) S3 rfl
  unfold withinM
  cases hc : (allL b).any (fun a => a.tmp == t) with
  | true =>
    rw [hc, if_pos rfl] at main
    obtain ⟨k, S', m1, rfl⟩ := main
    have m1 : iter H 2000000 [.v (.bool false), .v (.int .i64 0)] S' = _ := m1
    rw [m1]
    exact ⟨_, rfl⟩
  | false =>
    rw [hc, if_neg (by decide)] at main
    obtain ⟨S', m1, rfl⟩ := main
    have m1 : iter H 2000000 [.v (.bool false), .v (.int .i64 0)] S' = _ := m1
    rw [m1]
    exact ⟨_, rfl⟩
end Go.Sv
end
