/- Parts of the proofs of this seat's laws: an interpreter of the program's form, its soundness against the model, or what it answers on this program. -/
import Derived.Test.YtkflapebfmcmaaaGreatBBuilds43
section
namespace Go.Sv
open Go Go.Proofs Go.Proofs.YtkflapebfmcmaaaGreat
set_option linter.all false
set_option maxRecDepth 100000

/-! Build of the reference. -/
def zTB : TBlock := ⟨[], [], zT, 0, []⟩
def stB (b : Block) (l : List Stmt) : List TStmt × Wt := l.foldl (stepB (distM b.tmps) stmtR (usesM b)) ([], [])
def buildR (b : Block) : TBlock × Int :=
  if errB b ≠ 0 then (zTB, 7) else (⟨b.tmps, (stB b b.l).1, (pickR b.next.tmp (leafT b.next) (stB b b.l).2).1, b.jump, b.spans⟩, 0)

def z39 : List SV := [(.v (.slice none 0 0)), (.v (.slice none 0 0)), (.v (.int .i64 (0 : Int))), (.v (.int .i64 (0 : Int))), (.v (.int .u32 (0 : Int))), (.v (.int .u32 (0 : Int))), (.v (.int .u32 (0 : Int))), (.v (.int .u32 (0 : Int))), (.v (.int .i64 (0 : Int))), (.v (.int .i64 (0 : Int))), (.v (.int .i64 (0 : Int))), (.v (.int .i64 (0 : Int))), (.v (.slice none 0 0)), (.v (.int .i64 (0 : Int))), (.v (.slice none 0 0))]
def o39 (tm sp yL : SV) (j : Int) : List SV := [tm, yL, (.v (.int .i64 (0 : Int))), (.v (.int .i64 (0 : Int))), (.v (.int .u32 (0 : Int))), (.v (.int .u32 (0 : Int))), (.v (.int .u32 (0 : Int))), (.v (.int .u32 (0 : Int))), (.v (.int .i64 (0 : Int))), (.v (.int .i64 (0 : Int))), (.v (.int .i64 (0 : Int))), (.v (.int .i64 (0 : Int))), (.v (.slice none 0 0)), (.v (.int .i64 j)), sp]
theorem sz39 {k : K} (hP : k.P = Tryz.prog) : size? k 39 = some 15 := size_of hP (by kernel_rfl)
theorem ag34 {k : K} (hP : k.P = Tryz.prog) : agg? k 34 = some false := by unfold agg?; rw [hP, Tryz.underlying34]
theorem sz34 {k : K} (hP : k.P = Tryz.prog) : size? k 34 = some 1 := size_of hP (by kernel_rfl)

/-- A copy that will never change. -/
theorem frozen_copy {α : Type} {f : α → List SV} (hc : Clean f) {sz by_ : Nat} (hf : ∀ x, (f x).length = sz) {k : K} {t e : TypeId} {z : List SV} (he : elem? k t = some e) (hs : size? k e = some sz) (hb : bytes? k e = some by_) (hz : zero? k e = some z) (h0 : sz ≠ 0) (h1 : by_ ≠ 0) (h2 : z.length = sz) (hbx : k.inBox e ≠ 1) (l : List α) (hr : l.length * by_ ≤ room) :
    ((appendE k t .emp (shut (sl f l)) St0).map fun r => erase r.2 r.1) = some (sl f l) := by
  obtain ⟨y, S, a, o, _, _⟩ := own_append hf he hs hb hz h0 h1 h2 hbx (own0 f sz (S := St0) (by decide)) l (by simpa using hr)
  rw [(sl_shut hc l).1, a, Option.map_some]
  rw [List.nil_append] at o
  rcases o.2 with ⟨rfl, rfl⟩ | ⟨b, rfl, _⟩
  · rfl
  · simp only [erase, cl_flat hc]; rfl

theorem bytes15i : ∃ n, bytes? (kt.at 15) 3 = some n ∧ n ≠ 0 ∧ n ≤ 1000 := bytesU (by kernel_rfl)
theorem bytes15p : ∃ n, bytes? (kt.at 15) 108 = some n ∧ n ≠ 0 ∧ n ≤ 1000 := bytesU (by kernel_rfl)
theorem bytes15w : ∃ n, bytes? (kt.at 15) 104 = some n ∧ n ≠ 0 ∧ n ≤ 1000 := bytesU (by kernel_rfl)
theorem bytes15s : ∃ n, bytes? (kt.at 15) 59 = some n ∧ n ≠ 0 ∧ n ≤ 1000 := bytesU (by kernel_rfl)
theorem zero15i : ∃ z, zero? (kt.at 15) 3 = some z ∧ z.length = 1 := zlenU (by kernel_rfl)
theorem zero15p : ∃ z, zero? (kt.at 15) 108 = some z ∧ z.length = 2 := zlenU (by kernel_rfl)
theorem zero15w : ∃ z, zero? (kt.at 15) 104 = some z ∧ z.length = 12 := zlenU (by kernel_rfl)
theorem zero15s : ∃ z, zero? (kt.at 15) 59 = some z ∧ z.length = 19 := zlenU (by kernel_rfl)
theorem sz108 {k : K} (hP : k.P = Tryz.prog) : size? k 108 = some 2 := size_of hP size108'

theorem pick_TB {n : Int} {t0 : Tree} (h0 : TB t0) : ∀ {w : Wt}, (∀ p ∈ w, TB p.2) → TB (pickR n t0 w).1 := by
  intro w h
  rcases pick_mem (n := n) (t0 := t0) (w := w) with e | ⟨p, hp, e⟩
  · rw [e]; exact h0
  · rw [e]; exact h p hp
theorem leaf_TB (a : Atom) : TB (leafT a) := by
  unfold leafT; rw [TB]; exact ⟨by simp, by rw [TBl]; trivial⟩
theorem taken_TB : ∀ (l : List Atom) (w : Wt), (∀ p ∈ w, TB p.2) → (∀ t ∈ (takenR l w).1, TB t) ∧ ∀ p ∈ (takenR l w).2, TB p.2 ∧ p ∈ w
  | [], w, h => ⟨fun t ht => by simp [takenR] at ht, fun p hp => ⟨h p hp, hp⟩⟩
  | a :: r, w, h => by
    have h1 : ∀ p ∈ (pickR a.tmp (leafT a) w).2, TB p.2 := fun p hp => h p (List.mem_filter.1 hp).1
    obtain ⟨i1, i2⟩ := taken_TB r _ h1
    refine ⟨fun t ht => ?_, fun p hp => ⟨(i2 p hp).1, (List.mem_filter.1 (i2 p hp).2).1⟩⟩
    simp only [takenR] at ht
    rcases List.mem_cons.1 ht with rfl | ht
    · exact pick_TB (leaf_TB a) h
    · exact i1 t ht
theorem stmtR_TB {s : Stmt} (h1 : s.l.length ≤ 1000000) (h2 : s.e.l.length ≤ 1000000) {w : Wt} (h : ∀ p ∈ w, TB p.2) : TBs (stmtR s w).1 ∧ (∀ p ∈ (stmtR s w).2, TB p.2) ∧ (stmtR s w).2.length ≤ w.length := by
  unfold stmtR
  split
  · have := taken_TB s.e.l w h
    refine ⟨⟨?_, fun t ht => by simp [bareT] at ht⟩, fun p hp => (this.2 p hp).1, (takenR_len s.e.l w).2⟩
    show TB (nodeT s.e (takenR s.e.l w).1)
    unfold nodeT; rw [TB]
    exact ⟨by rw [(takenR_len s.e.l w).1]; exact h2, TBl_of this.1⟩
  · have := taken_TB s.l w h
    exact ⟨⟨leaf_TB zA, this.1⟩, fun p hp => (this.2 p hp).1, (takenR_len s.l w).2⟩
theorem stmtR_kind (s : Stmt) (w : Wt) : (stmtR s w).1.kind = s.kind ∧ (stmtR s w).1.tmp = s.tmp ∧ (s.kind = 2 → (stmtR s w).1.e.kind = s.e.kind) ∧ (s.kind ≠ 2 → (stmtR s w).1.l.length = s.l.length) := by
  unfold stmtR
  split
  · exact ⟨rfl, rfl, fun _ => rfl, fun h => (h ‹_›).elim⟩
  · exact ⟨rfl, rfl, fun h => (‹¬ _› h).elim, fun _ => (takenR_len s.l w).1⟩

theorem stB_snoc (b : Block) (l : List Stmt) (s : Stmt) : stB b (l ++ [s]) = stepB (distM b.tmps) stmtR (usesM b) (stB b l) s := by simp [stB, List.foldl_append]
/-- What is put out and what waits are no more than the statements. -/
theorem stB_bnd (b : Block) (hB : ∀ s ∈ b.l, s.l.length ≤ 1000000 ∧ s.e.l.length ≤ 1000000) : ∀ i, i ≤ b.l.length → (stB b (b.l.take i)).1.length + (stB b (b.l.take i)).2.length ≤ i ∧ ∀ p ∈ (stB b (b.l.take i)).2, TB p.2 := by
  intro i
  induction i with
  | zero => intro _; rw [List.take_zero]; exact ⟨Nat.le_refl 0, fun p hp => by simp [stB] at hp⟩
  | succ i ih =>
    intro hi
    obtain ⟨h1, h2⟩ := ih (by omega)
    have hb := hB b.l[i] (List.getElem_mem (by omega))
    rw [List.take_succ_eq_append_getElem (by omega), stB_snoc]
    generalize stB b (b.l.take i) = c at h1 h2
    generalize b.l[i] = s at hb
    obtain ⟨g1, g2, g3⟩ := stmtR_TB hb.1 hb.2 h2
    have hsplit : ∀ (w : Wt) (q : Int × Tree → Bool), (w.filter q).length + (w.filter fun p => !q p).length = w.length := by
      intro w q
      induction w with
      | nil => rfl
      | cons p r ihr =>
        cases hq : q p <;> simp [List.filter_cons, hq] <;> omega
    have hs := hsplit (stmtR s c.2).2 fun p => distM b.tmps (stmtR s c.2).1 p.2
    unfold stepB
    simp only
    by_cases hc : s.kind = 2 ∧ usesM b s.tmp = 1 ∧ s.e.kind ≠ 1
    · rw [if_pos hc]
      refine ⟨by simp only [List.length_append, List.length_map, List.length_singleton]; omega, fun p hp => ?_⟩
      rcases List.mem_append.1 hp with hp | hp
      · exact g2 p (List.mem_filter.1 hp).1
      · simp only [List.mem_singleton] at hp; subst hp; exact g1.1
    · rw [if_neg hc]
      refine ⟨by simp only [List.length_append, List.length_map, List.length_singleton]; omega, fun p hp => ?_⟩
      exact g2 p (List.mem_filter.1 hp).1

theorem tblock_erase (b : TBlock) (S : St) : eraseL S b.t39.enc = b.t39.enc := by
  have h1 := nums_erase S b.tmps
  have h2 := sl_erase cl_tsc b.l S
  have h3 := sl_erase cl_tree b.next.l S
  have h4 := sl_erase cl_pc b.spans S
  simp only [T39.enc, TBlock.t39, eraseL, erase, weakV, h1, h2, h3, spanl, h4]
theorem w104_set (p : Int × Tree) : [(SV.v (.int .i64 (2 : Int))), (.v (.int .i64 (w104 p).tmp)), (.v (.int .i64 (0 : Int))), (.v (.int .i64 (0 : Int))), (.v (.int .i64 (0 : Int))), (.v (.int .u32 (0 : Int))), (.v (.int .u32 (0 : Int))), (.v (.int .i64 (w104 p).t_A_Tmp)), (.v (.int .i64 (w104 p).t_A_Ty)), (.v (.int .u32 (w104 p).t_A_C0)), (.v (.int .u32 (w104 p).t_A_C1)), (.v (.int .u32 (w104 p).t_A_C2)), (.v (.int .u32 (w104 p).t_A_C3)), (.v (.int .i64 (w104 p).t_Kind)), (.v (.int .i64 (w104 p).t_Ty)), (.v (.int .i64 (w104 p).t_Op)), (.v (.int .i64 (w104 p).t_Off)), (w104 p).t_L, sl Tree.cells []] = tsc (setT p) := rfl
end Go.Sv
end
section
namespace Go.Sv
open Go Go.Proofs Go.Proofs.YtkflapebfmcmaaaGreat
set_option linter.all false
set_option maxRecDepth 100000

/-- A statement's cells, its list of trees being nil. -/
def tscN (p : TStmt × Bool) : List SV := if p.2 = true then T59.enc { p.1.t59 with l := .v (.slice none 0 0) } else tsc p.1
theorem tscN_len (p : TStmt × Bool) : (tscN p).length = 19 := by unfold tscN; split <;> rfl
/-- What was put out, and how it lies. -/
def RawS (raw : List (TStmt × Bool)) (out : List TStmt) : Prop := raw.map (·.1) = out ∧ ∀ q ∈ raw, q.2 = true → q.1.l = []
theorem raw0 : RawS [] [] := ⟨rfl, fun q hq => by simp at hq⟩
theorem RawS.snoc {raw : List (TStmt × Bool)} {out : List TStmt} (h : RawS raw out) (q : TStmt × Bool) (hq : q.2 = true → q.1.l = []) : RawS (raw ++ [q]) (out ++ [q.1]) :=
  ⟨by rw [List.map_append, h.1]; rfl, fun p hp => by
    rcases List.mem_append.1 hp with hp | hp
    · exact h.2 p hp
    · simp only [List.mem_singleton] at hp; subst hp; exact hq⟩
theorem tscN_erase {q : TStmt × Bool} (h : q.2 = true → q.1.l = []) (S : St) : eraseL S (tscN q) = tsc q.1 := by
  unfold tscN
  split
  · rename_i hq
    have := h hq
    simp only [T59.enc, TStmt.t59, eraseL, erase, weakV, sl_erase cl_tree, tsc, this]; rfl
  · exact (cl_tsc q.1).2 S
theorem raw_erase {raw : List (TStmt × Bool)} {out : List TStmt} (h : RawS raw out) {y : SV} (hy : Rd' tscN raw y) (S : St) : erase S y = sl tsc out := by
  have hfl : ∀ raw : List (TStmt × Bool), (∀ q ∈ raw, q.2 = true → q.1.l = []) → eraseL S (raw.flatMap tscN) = (raw.map (·.1)).flatMap tsc := by
    intro raw
    induction raw with
    | nil => intro _; rfl
    | cons q r ih =>
      intro h
      simp only [List.flatMap_cons, eraseL_append, List.map_cons]
      rw [tscN_erase (h q (by simp)) S, ih fun q hq => h q (by simp [hq])]
  have hl : out.length = raw.length := by rw [← h.1]; simp
  rcases hy with ⟨id, rfl⟩ | ⟨rfl, rfl | rfl⟩
  · simp only [erase, hfl raw h.2, h.1, sl, hl]
  · rw [← h.1]; rfl
  · rw [← h.1]; rfl
theorem setT_cells (p : Int × Tree) : [(SV.v (.int .i64 (2 : Int))), (.v (.int .i64 (w104 p).tmp)), (.v (.int .i64 (0 : Int))), (.v (.int .i64 (0 : Int))), (.v (.int .i64 (0 : Int))), (.v (.int .u32 (0 : Int))), (.v (.int .u32 (0 : Int))), (.v (.int .i64 (w104 p).t_A_Tmp)), (.v (.int .i64 (w104 p).t_A_Ty)), (.v (.int .u32 (w104 p).t_A_C0)), (.v (.int .u32 (w104 p).t_A_C1)), (.v (.int .u32 (w104 p).t_A_C2)), (.v (.int .u32 (w104 p).t_A_C3)), (.v (.int .i64 (w104 p).t_Kind)), (.v (.int .i64 (w104 p).t_Ty)), (.v (.int .i64 (w104 p).t_Op)), (.v (.int .i64 (w104 p).t_Off)), (w104 p).t_L, .v (.slice none 0 0)] = tscN (setT p, true) := rfl

theorem splice15 (a0 a1 a2 a3 a4 a5 a6 a7 a8 a9 a10 a11 a12 a13 a14 : SV) : splice z39 0 [a0, a1, a2, a3, a4, a5, a6, a7, a8, a9, a10, a11, a12, a13, a14] = [a0, a1, a2, a3, a4, a5, a6, a7, a8, a9, a10, a11, a12, a13, a14] := rfl
theorem splice39 (t : T39) : splice z39 0 t.enc = t.enc := rfl

/-- The boxes of Build. -/
structure InvB (b : Block) (out : List TStmt) (S : St) : Prop where
  fl : S.floor = 0
  nx : 2 ≤ S.next
  c0 : S.get 0 = .cells z39
  c1 : ∃ yL raw, S.get 1 = .cells (o39 (nums b.tmps) (spanl b.spans) yL b.jump) ∧ RawS raw out ∧ AccL tscN 19 2 raw yL S

theorem filt_snoc (q : Int × Tree → Bool) (w : Wt) (p : Int × Tree) : (w ++ [p]).filter q = if q p = true then w.filter q ++ [p] else w.filter q := by
  rw [List.filter_append]
  cases h : q p <;> simp [List.filter_cons, h]

/-- The block is valid, and its statements are as they are. -/
theorem okB_facts {b : Block} (h : errB b = 0) : limB b ∧ (∀ s ∈ b.l, validM b.tmps s = true) ∧ ∃ D, chkL b.tmps [] b.l = some D ∧ endB b D = true := by
  unfold errB at h
  split at h
  · rename_i hok
    unfold okB at hok
    simp only [Bool.and_eq_true, decide_eq_true_eq] at hok
    refine ⟨hok.1, ?_, ?_⟩
    · cases hc : chkL b.tmps [] b.l with
      | none => rw [hc] at hok; exact absurd hok.2 (by simp)
      | some D =>
        have : ∀ (l : List Stmt) (D D' : List Int), chkL b.tmps D l = some D' → ∀ s ∈ l, validM b.tmps s = true := by
          intro l
          induction l with
          | nil => intro _ _ _ s hs; simp at hs
          | cons x r ih =>
            intro D D' hc s hs
            rw [chkL] at hc
            simp only [Option.bind_eq_some_iff] at hc
            obtain ⟨D1, h1, h2⟩ := hc
            rcases List.mem_cons.1 hs with rfl | hs
            · unfold stepC at h1
              split at h1
              · rename_i h; exact h.1
              · cases h1
            · exact ih D1 D' h2 s hs
        exact this _ _ _ hc
    · cases hc : chkL b.tmps [] b.l with
      | none => rw [hc] at hok; exact absurd hok.2 (by simp)
      | some D => rw [hc] at hok; exact ⟨D, rfl, hok.2⟩
  · cases h
theorem valid_put {tmps : List Int} {s : Stmt} (h : validM tmps s = true) (hk : s.kind = 3) : s.l.length = 1 := by
  unfold validM at h
  split at h
  · cases h
  · unfold validK at h
    simp [hk, typesM] at h
    exact h.1

set_option maxHeartbeats 4000000 in
theorem spec15 (b : Block) (hB : bndB b) (hT : b.tmps.length ≤ 1000000000) (hL : b.l.length ≤ 1000000000) (hS : b.spans.length ≤ 1000000000) (S : St) : run kt (.func 15 [] []) [.agg b.t31.enc] S = some (.tuple [.agg (buildR b).1.t39.enc, .v (.int .i64 (buildR b).2)], S) := by
  suffices ∃ cs S2, cBody (kt.at 15) h15 (run kt) 2000000 (compF Tryz.f15) [.agg b.t31.enc] St0 = some (.tuple [.agg cs, .v (.int .i64 (buildR b).2)], S2) ∧ eraseL S2 cs = (buildR b).1.t39.enc by
    obtain ⟨cs, S2, h1, h2⟩ := this
    have := go_closed ks_kt (f := 15) (fst := []) (cap := []) (args := [.agg b.t31.enc]) (S := S) h15 2000000 rfl (fn_kt 15 fn15) rfl (z := (.tuple [.agg cs, .v (.int .i64 (buildR b).2)], S2)) (by
      simp only [List.nil_append, List.append_nil, List.map_cons, List.map_nil, block_ws]
      exact h1)
    rw [tup2_erase (x' := .agg (buildR b).1.t39.enc) (y' := .v (.int .i64 (buildR b).2)) (by simp only [erase, h2]) rfl] at this
    exact this
  rw [tell15]
  rw [show (St.alloc St0 (.cells [(.v (.slice none 0 0)), (.v (.slice none 0 0)), (.v (.int .i64 (0 : Int))), (.v (.int .i64 (0 : Int))), (.v (.int .u32 (0 : Int))), (.v (.int .u32 (0 : Int))), (.v (.int .u32 (0 : Int))), (.v (.int .u32 (0 : Int))), (.v (.int .i64 (0 : Int))), (.v (.int .i64 (0 : Int))), (.v (.int .i64 (0 : Int))), (.v (.int .i64 (0 : Int))), (.v (.slice none 0 0)), (.v (.int .i64 (0 : Int))), (.v (.slice none 0 0))])) = St0.alloc (.cells z39) from rfl]
  rw [spec23 b hB hT hL hS, Option.bind_some, openInt_v]
  have hA : (St0.alloc (.cells z39)).get 0 = .cells z39 := by simp [St.alloc, St0]
  have hfA : (St0.alloc (.cells z39)).floor = 0 := rfl
  have hnA : (St0.alloc (.cells z39)).next = 1 := rfl
  generalize (St0.alloc (.cells z39)) = SA at hA hfA hnA
  rw [hnA]
  by_cases herr : errB b = 0
  · have e1 : (errB b != 0) = false := by simp [herr]
    rw [e1, splitB_f]
    obtain ⟨hlim, hval, _⟩ := okB_facts herr
    obtain ⟨l1, l2, l3, _, _⟩ := hlim
    obtain ⟨bi, hbi, bi0, bi1⟩ := bytes15i
    obtain ⟨bp, hbp, bp0, bp1⟩ := bytes15p
    obtain ⟨bw, hbw, bw0, bw1⟩ := bytes15w
    obtain ⟨bs, hbs, bs0, bs1⟩ := bytes15s
    obtain ⟨zi, hzi, zil⟩ := zero15i
    obtain ⟨zp, hzp, zpl⟩ := zero15p
    obtain ⟨zw, hzw, zwl⟩ := zero15w
    obtain ⟨zs, hzs, zsl⟩ := zero15s
    have room1 : ∀ n m : Nat, n ≤ 1000000 → m ≤ 1000 → n * m ≤ room := by
      intro n m h1 h2
      refine Nat.le_trans (Nat.mul_le_mul h1 h2) ?_
      decide
    have fr1 := frozen_copy (k := kt.at 15) (t := 22) (e := 3) (cl_ic .i64) (ic_len .i64) (elem_of (P_kt 15) Tryz.underlying22) (sz3 (P_kt 15)) hbi hzi (by decide) bi0 zil (by decide) b.tmps (room1 _ _ (by omega) bi1)
    have fr2 := frozen_copy (k := kt.at 15) (t := 29) (e := 108) cl_pc pc_len (elem_of (P_kt 15) Tryz.underlying29) (sz108 (P_kt 15)) hbp hzp (by decide) bp0 zpl (by decide) b.spans (room1 _ _ (by omega) bp1)
    rw [show b.t31.tmps = sl (ic .i64) b.tmps from rfl, fr1, Option.bind_some, show b.t31.spans = sl pc b.spans from rfl, fr2, Option.bind_some]
    rw [if_pos (show single (sl (ic .i64) b.tmps) = true from rfl), if_pos (show single (sl pc b.spans) = true from rfl)]
    rw [stN (sz39 (P_kt 15)) (by decide) (b := 1) (cs := z39) (by simp [St.alloc, hnA, z39]) (by show SA.floor ≤ 1; omega) rfl (by decide), splice15]
    have hSB : ∃ SB, (SA.alloc (.cells z39)).put 1 (.cells (o39 (nums b.tmps) (spanl b.spans) (.v (.slice none 0 0)) b.jump)) = SB ∧ InvB b [] SB ∧ SB.next = 2 := by
      refine ⟨_, rfl, ⟨hfA, by simp [St.put, St.alloc, hnA], by rw [get_put _ _ _ _ (by decide), get_new _ _ _ (by omega)]; exact hA, _, [], put_get _ _ _, raw0, accL0 _ _ _ (by show SA.floor ≤ SA.next + 1; omega) (by show 2 ≤ SA.next + 1; omega)⟩, by simp [St.put, St.alloc, hnA]⟩
    obtain ⟨SB, eB, inv0, nB⟩ := hSB
    rw [show (SA.alloc (.cells [(.v (.slice none 0 0)), (.v (.slice none 0 0)), (.v (.int .i64 (0 : Int))), (.v (.int .i64 (0 : Int))), (.v (.int .u32 (0 : Int))), (.v (.int .u32 (0 : Int))), (.v (.int .u32 (0 : Int))), (.v (.int .u32 (0 : Int))), (.v (.int .i64 (0 : Int))), (.v (.int .i64 (0 : Int))), (.v (.int .i64 (0 : Int))), (.v (.int .i64 (0 : Int))), (.v (.slice none 0 0)), (.v (.int .i64 (0 : Int))), (.v (.slice none 0 0))])).put 1 (.cells [sl (ic .i64) b.tmps, (.v (.slice none 0 0)), (.v (.int .i64 (0 : Int))), (.v (.int .i64 (0 : Int))), (.v (.int .u32 (0 : Int))), (.v (.int .u32 (0 : Int))), (.v (.int .u32 (0 : Int))), (.v (.int .u32 (0 : Int))), (.v (.int .i64 (0 : Int))), (.v (.int .i64 (0 : Int))), (.v (.int .i64 (0 : Int))), (.v (.int .i64 (0 : Int))), (.v (.slice none 0 0)), (.v (.int .i64 b.t31.jump)), sl pc b.spans]) = SB from eB]
    clear eB hA hfA hnA fr1 fr2
    rw [if_pos (by omega)]
    rw [show b.t31.l = stmts b.l from rfl]
    simp only [splitB_dec]
    generalize hF : (fun vs0 S1 => _ : List SV → St → Option (Ex × List SV × St)) = F
    have hBd : ∀ s ∈ b.l, s.l.length ≤ 1000000 ∧ s.e.l.length ≤ 1000000 := fun s hs => by have := (hB s hs).1; omega
    obtain ⟨vs, S', h1, inv', y9, rfl, hy9⟩ := iter_inv 0 (F := F) b.l.length
      (fun i vs S => InvB b (stB b (b.l.take i)).1 S ∧ ∃ y9, vs = [y9, .v (.int .i64 (i : Int))] ∧ Rd' wc (stB b (b.l.take i)).2 y9)
      (fun i hi vs S hI => by
        obtain ⟨inv, y9, rfl, hy9⟩ := hI
        have hb := hBd b.l[i] (List.getElem_mem hi)
        have hv := hval b.l[i] (List.getElem_mem hi)
        obtain ⟨bn1, bn2⟩ := stB_bnd b hBd i (by omega)
        rw [List.take_succ_eq_append_getElem hi, stB_snoc]
        generalize stB b (b.l.take i) = c at inv hy9 bn1 bn2
        rw [← hF]
        simp only [openHd_v, openInt_v, len_stmts (P_kt 15), Option.bind_some]
        rw [if_pos (by omega), index_stmts (P_kt 15) .i64 b.l i hi]
        generalize b.l[i] = s at hb hv
        obtain ⟨x1, x2, x3⟩ := stmtR_TB hb.1 hb.2 bn2
        obtain ⟨k1, k2, k3, k4⟩ := stmtR_kind s c.2
        rw [Option.bind_some, openCp57', spec61 s c.2 hb.1 hb.2 (by omega) (rd_ws cl_wc hy9), Option.bind_some]
        simp only [openTup, openHd_v, openNil]
        rw [openAgg59', show T59.enc (stmtR s c.2).1.t59 = tsc (stmtR s c.2).1 from rfl, store_box (sz59 (P_kt 15)) (by decide) (by rw [inv.fl]; omega) rfl (tsc_len _)]
        generalize hx : (stmtR s c.2).1 = x at x1 k1 k2 k3 k4
        generalize hw : (stmtR s c.2).2 = w1 at x2 x3
        generalize hS1 : boxed S _ _ = S1
        have gx : S1.get S.next = .cells (tsc x) := by rw [← hS1]; exact boxed_self _ _ _
        have nx1 : S1.next = S.next + 1 := by rw [← hS1]; rfl
        have inv1 : InvB b c.1 S1 := by
          obtain ⟨f, n, c0, yL, raw, c1, r, a⟩ := inv
          rw [← hS1]
          exact ⟨f, by rw [boxed_next]; omega, by rw [boxed_get _ _ _ _ (by omega)]; exact c0, yL, raw, by rw [boxed_get _ _ _ _ (by omega)]; exact c1, r, accL_box a _ _⟩
        clear hS1
        have hsn := inv.nx
        generalize S.next = xb at gx nx1 hsn
        generalize hG : (fun vs0 S1 => _ : List SV → St → Option (Ex × List SV × St)) = G
        obtain ⟨vs, S2, h2, inv2, g2, y28, rfl, hy28⟩ := iter_inv 2 (F := G) w1.length
          (fun j vs S' => InvB b (c.1 ++ ((w1.take j).filter fun p => distM b.tmps x p.2).map setT) S' ∧ S'.get xb = .cells (tsc x) ∧ ∃ y, vs = [y, .v (.int .i64 (j : Int))] ∧ AccL wc 12 (xb + 1) ((w1.take j).filter fun p => !distM b.tmps x p.2) y S')
          (fun j hj vs S' hI => by
            obtain ⟨⟨f, n, c0, yL, raw, c1, r, a⟩, g, y, rfl, hy⟩ := hI
            have hp2 := x2 w1[j] (List.getElem_mem hj)
            have hxn : xb < S'.next := hy.2.1
            rw [List.take_succ_eq_append_getElem hj, filt_snoc, filt_snoc]
            rw [← hG]
            simp only [openHd_v, openInt_v, len_sl (P_kt 15) Tryz.underlying99, Option.bind_some]
            rw [if_pos (by omega), if_pos hxn]
            rw [ldN (agg_st (P_kt 15) Tryz.underlying59) (sz59 (P_kt 15)) g (tsc_len x), Option.bind_some, openAgg59']
            rw [index_sl (P_kt 15) Tryz.underlying99 size104 wc wc_len w1 j hj]
            simp only [Option.bind_some, openCp104]
            rw [w104_tree, show sl (ic .i64) b.tmps = nums b.tmps from rfl]
            rw [spec62 b.tmps x w1[j].2 x1 hp2 (fun h3 => by
              have hk3 : s.kind = 3 := by rw [← k1]; exact h3
              have := k4 (by omega)
              have h1 := valid_put hv hk3
              intro e; rw [e] at this; simp at this; omega)]
            simp only [Option.bind_some, openBool_v]
            rw [wrap_in (by omega) (by omega)]
            have hrl : raw.length = c.1.length + ((w1.take j).filter fun p => distM b.tmps x p.2).length := by
              have := congrArg List.length r.1
              simpa using this
            have hf1 : ((w1.take j).filter fun p => distM b.tmps x p.2).length ≤ j := by
              refine Nat.le_trans (List.length_filter_le _ _) ?_
              rw [List.length_take]; exact Nat.min_le_left _ _
            have hf2 : ((w1.take j).filter fun p => !distM b.tmps x p.2).length ≤ j := by
              refine Nat.le_trans (List.length_filter_le _ _) ?_
              rw [List.length_take]; exact Nat.min_le_left _ _
            cases hd : distM b.tmps x w1[j].2 with
            | true =>
              rw [splitB_t, if_pos (by omega), ld1 (ag34 (P_kt 15)) (sz34 (P_kt 15)) c1]
              simp only [o39, List.drop_succ_cons, List.drop_zero, List.head?_cons, Option.bind_some]
              obtain ⟨yL', S'', a1, a2, a3, a4, a5, a6⟩ := accL_append tscN_len (elem_of (P_kt 15) Tryz.underlying34) (sz59 (P_kt 15)) hbs hzs (by decide) bs0 zsl (by decide) a (setT w1[j], true) (room1 _ _ (by omega) bs1)
              rw [setT_cells, a1]
              simp only [Option.bind_some]
              rw [st1 (sz34 (P_kt 15)) (b := 1) (cs := o39 (nums b.tmps) (spanl b.spans) yL b.jump) (by rw [a6 1 (by omega) (by rw [c1]; simp)]; exact c1) (by rw [a3, f]; decide) (by simp [o39]) (accL_single a2)]
              rw [if_pos (by show S'.next ≤ S''.next; omega)]
              refine ⟨_, _, rfl, ⟨by show S''.floor = 0; rw [a3, f], by show 2 ≤ S''.next; omega, ?_, yL', raw ++ [(setT w1[j], true)], ?_, ?_, ?_⟩, ?_, y, rfl, ?_⟩
              · rw [get_put _ _ _ _ (by decide), a6 0 (by omega) (by rw [c0]; simp)]; exact c0
              · rw [put_get]; rfl
              · simp only [if_true, List.map_append]
                rw [← List.append_assoc]
                exact r.snoc (setT w1[j], true) (fun _ => rfl)
              · exact accL_keep a2 rfl (Nat.le_refl _) fun c hc _ => get_put _ _ _ _ (by omega)
              · rw [get_put _ _ _ _ (by omega), a6 xb hxn (by rw [g]; simp)]; exact g
              · simp only [Bool.not_true, Bool.false_eq_true, if_false]
                have h1 := accL_frame hy a3 (by omega) fun c hc hcg => a6 c hc (by intro m; rw [hcg]; simp)
                exact accL_keep h1 rfl (Nat.le_refl _) fun c hc _ => get_put _ _ _ _ (by omega)
            | false =>
              rw [splitB_f, w104_enc]
              obtain ⟨y', S'', a1, a2, a3, a4, a5, a6⟩ := accL_append wc_len (elem_of (P_kt 15) Tryz.underlying99) (sz104 (P_kt 15)) hbw hzw (by decide) bw0 zwl (by decide) hy w1[j] (room1 _ _ (by omega) bw1)
              rw [a1]
              simp only [Option.bind_some]
              refine ⟨_, _, rfl, ⟨by rw [a3, f], by omega, ?_, yL, raw, ?_, ?_, ?_⟩, ?_, y', rfl, ?_⟩
              · rw [a6 0 (by omega) (by rw [c0]; simp)]; exact c0
              · rw [a6 1 (by omega) (by rw [c1]; simp)]; exact c1
              · simp only [Bool.false_eq_true, if_false]; exact r
              · exact accL_frame a a3 (by omega) fun c hc hcg => a6 c hc (by intro m; rw [hcg]; simp)
              · rw [a6 xb hxn (by rw [g]; simp)]; exact g
              · simp only [Bool.not_false, if_true]; exact a2)
          (fun vs S' hI => by
            obtain ⟨_, _, y, rfl, hy⟩ := hI
            rw [← hG]
            simp only [openHd_v, openInt_v, len_sl (P_kt 15) Tryz.underlying99, Option.bind_some]
            rw [if_neg (by omega)])
          w1.length 0 rfl [.v (.slice none 0 0), .v (.int .i64 0)] S1 2000000 ⟨by simpa using inv1, gx, _, rfl, accL0 _ _ _ (by rw [inv1.fl]; omega) (by omega)⟩ (by omega)
        rw [h2]
        rw [List.take_length] at inv2 hy28
        simp only [Option.bind_some, openHd_v, openInt_v, exits_exit, if_true]
        obtain ⟨f, n, c0, yL, raw, c1, r, a⟩ := inv2
        have ld : ∀ off, loadE (kt.at 15) 3 (.ptr xb off) S2 = ((tsc x).drop off).head? := fun off => ld1 (ag3 (P_kt 15)) (sz3 (P_kt 15)) g2
        have hu := spec63 b x.tmp (by omega) (fun s hs => (hB s hs).1) S2
        have hxn : xb < S2.next := hy28.2.1
        have hrl : raw.length = c.1.length + (w1.filter fun p => distM b.tmps x p.2).length := by
          have := congrArg List.length r.1
          simpa using this
        have hf1 : (w1.filter fun p => distM b.tmps x p.2).length ≤ w1.length := List.length_filter_le _ _
        have hf2 : (w1.filter fun p => !distM b.tmps x p.2).length ≤ w1.length := List.length_filter_le _ _
        have hgat : (((loadE (kt.at 15) 3 (.ptr xb 0) S2).bind fun r58 => openInt r58 fun a59 => (splitB (.v (.bool (a59 == (2 : Int)))) ((loadE (kt.at 15) 3 (.ptr xb 13) S2).bind fun r60 => openInt r60 fun a61 => (splitB (.v (.bool (a61 != (1 : Int)))) ((loadE (kt.at 15) 3 (.ptr xb 1) S2).bind fun r62 => openInt r62 fun a63 => (run kt (.func 63 [] []) [(.agg b.t31.enc), (.v (.int .i64 a63))] S2).bind fun p64 => openInt p64.1 fun a65 => (some [(SV.v (.bool (a65 == (1 : Int))))])) ((some [(.v (.bool false))])))) ((some [(.v (.bool false))]))))) = some [.v (.bool (decide (s.kind = 2 ∧ usesM b s.tmp = 1 ∧ s.e.kind ≠ 1)))] := by
          rw [ld 0, ld 13, ld 1]
          simp only [tsc, T59.enc, TStmt.t59, List.drop_zero, List.drop_succ_cons, List.head?_cons, Option.bind_some, openInt_v, hu]
          by_cases hk : s.kind = 2
          · have e1 : (x.kind == 2) = true := by rw [k1]; simpa using hk
            rw [e1, splitB_t, k3 hk, k2]
            by_cases hk1 : s.e.kind = 1
            · have e2 : (s.e.kind != 1) = false := by simp [hk1]
              rw [e2, splitB_f]; simp [hk1]
            · have e2 : (s.e.kind != 1) = true := by simpa using hk1
              have e3 : decide (s.kind = 2 ∧ usesM b s.tmp = 1 ∧ s.e.kind ≠ 1) = (usesM b s.tmp == 1) := by
                by_cases h : usesM b s.tmp = 1 <;> simp [hk, hk1, h]
              rw [e2, splitB_t, e3]
          · have e1 : (x.kind == 2) = false := by rw [k1]; simpa using hk
            rw [e1, splitB_f]; simp [hk]
        rw [hgat]
        clear hgat
        simp only [Option.bind_some, openHd_v, openBool_v]
        rw [wrap_in (by omega) (by omega)]
        have hstep : stepB (distM b.tmps) stmtR (usesM b) c s = if s.kind = 2 ∧ usesM b s.tmp = 1 ∧ s.e.kind ≠ 1 then (c.1 ++ (w1.filter fun p => distM b.tmps x p.2).map setT, (w1.filter fun p => !distM b.tmps x p.2) ++ [(s.tmp, x.e)]) else (c.1 ++ (w1.filter fun p => distM b.tmps x p.2).map setT ++ [x], w1.filter fun p => !distM b.tmps x p.2) := by
          unfold stepB
          simp only [hx, hw]
        rw [hstep]
        by_cases hc : s.kind = 2 ∧ usesM b s.tmp = 1 ∧ s.e.kind ≠ 1
        · rw [if_pos hc, decide_eq_true hc, splitB_t]
          rw [ld 1]
          have hl37 : loadE (kt.at 15) 37 (.ptr xb 7) S2 = some (.agg x.e.cells) := by
            simp only [loadE, agg_st (P_kt 15) Tryz.underlying37, sz37' (P_kt 15), g2, Option.bind_some, objCells, takeVal, if_true]
            rw [cells_eq]
            rfl
          rw [hl37]
          simp only [tsc, T59.enc, TStmt.t59, List.drop_zero, List.drop_succ_cons, List.head?_cons, Option.bind_some, openInt_v, openAgg37']
          have hcell : [(SV.v (.int .i64 x.tmp)), (.v (.int .i64 x.e.t37.a_Tmp)), (.v (.int .i64 x.e.t37.a_Ty)), (.v (.int .u32 x.e.t37.a_C0)), (.v (.int .u32 x.e.t37.a_C1)), (.v (.int .u32 x.e.t37.a_C2)), (.v (.int .u32 x.e.t37.a_C3)), (.v (.int .i64 x.e.t37.kind)), (.v (.int .i64 x.e.t37.ty)), (.v (.int .i64 x.e.t37.op)), (.v (.int .i64 x.e.t37.off)), x.e.t37.l] = wc (s.tmp, x.e) := by
            rw [k2, t37_eq, wc, cells_eq]
          rw [hcell]
          obtain ⟨y', S'', a1, a2, a3, a4, a5, a6⟩ := accL_append wc_len (elem_of (P_kt 15) Tryz.underlying99) (sz104 (P_kt 15)) hbw hzw (by decide) bw0 zwl (by decide) hy28 (s.tmp, x.e) (room1 _ _ (by omega) bw1)
          rw [a1]
          simp only [Option.bind_some]
          refine ⟨_, _, rfl, ⟨by rw [a3, f], by omega, ?_, yL, raw, ?_, r, ?_⟩, y', rfl, accL_rd a2⟩
          · rw [a6 0 (by omega) (by rw [c0]; simp)]; exact c0
          · rw [a6 1 (by omega) (by rw [c1]; simp)]; exact c1
          · exact accL_frame a a3 (by omega) fun c hc hcg => a6 c hc (by intro m; rw [hcg]; simp)
        · rw [if_neg hc, decide_eq_false hc, splitB_f]
          rw [ld1 (ag34 (P_kt 15)) (sz34 (P_kt 15)) c1, ldN (agg_st (P_kt 15) Tryz.underlying59) (sz59 (P_kt 15)) g2 (tsc_len x)]
          simp only [o39, List.drop_succ_cons, List.drop_zero, List.head?_cons, Option.bind_some, openAgg59']
          obtain ⟨yL', S'', a1, a2, a3, a4, a5, a6⟩ := accL_append tscN_len (elem_of (P_kt 15) Tryz.underlying34) (sz59 (P_kt 15)) hbs hzs (by decide) bs0 zsl (by decide) a (x, false) (room1 _ _ (by omega) bs1)
          rw [show T59.enc x.t59 = tscN (x, false) from rfl, a1]
          simp only [Option.bind_some]
          rw [st1 (sz34 (P_kt 15)) (b := 1) (cs := o39 (nums b.tmps) (spanl b.spans) yL b.jump) (by rw [a6 1 (by omega) (by rw [c1]; simp)]; exact c1) (by rw [a3, f]; decide) (by simp [o39]) (accL_single a2)]
          refine ⟨_, _, rfl, ⟨by show S''.floor = 0; rw [a3, f], by show 2 ≤ S''.next; omega, ?_, yL', raw ++ [(x, false)], ?_, ?_, ?_⟩, y28, rfl, accL_rd hy28⟩
          · rw [get_put _ _ _ _ (by decide), a6 0 (by omega) (by rw [c0]; simp)]; exact c0
          · rw [put_get]; rfl
          · exact r.snoc (x, false) (fun h => by cases h)
          · exact accL_keep a2 rfl (Nat.le_refl _) fun c hc _ => get_put _ _ _ _ (by omega))
      (fun vs S hI => by
        obtain ⟨_, y9, rfl, _⟩ := hI
        rw [← hF]
        simp only [openHd_v, openInt_v, len_stmts (P_kt 15), Option.bind_some]
        rw [if_neg (by omega)])
      b.l.length 0 rfl [.v (.slice none 0 0), .v (.int .i64 0)] SB 2000000 ⟨by rw [List.take_zero]; exact inv0, _, rfl, by rw [List.take_zero]; exact .inr ⟨rfl, .inl rfl⟩⟩ (by omega)
    rw [h1]
    rw [List.take_length] at inv' hy9
    obtain ⟨bn1, bn2⟩ := stB_bnd b hBd b.l.length (Nat.le_refl _)
    rw [List.take_length] at bn1 bn2
    simp only [Option.bind_some, openHd_v, openInt_v, exits_exit, if_true]
    have e64 := spec64 [b.next] (stB b b.l).2 (by simp) (by omega) (x := .sl (some S'.next) 1 [(.v (.int .i64 b.t31.next_Tmp)), (.v (.int .i64 b.t31.next_Ty)), (.v (.int .u32 b.t31.next_C0)), (.v (.int .u32 b.t31.next_C1)), (.v (.int .u32 b.t31.next_C2)), (.v (.int .u32 b.t31.next_C3))]) (y := y9) rfl (rd_ws cl_wc hy9) (S'.alloc (.own 6 6))
    rw [e64]
    simp only [Option.bind_some, openTup, openHd_v, openNil]
    have hbuild : buildR b = (⟨b.tmps, (stB b b.l).1, (pickR b.next.tmp (leafT b.next) (stB b b.l).2).1, b.jump, b.spans⟩, 0) := by
      unfold buildR; rw [if_neg (by simpa using herr)]
    rw [hbuild]
    obtain ⟨f, n, c0, yL, raw, c1, r, a⟩ := inv'
    generalize hst : stB b b.l = c at *
    have ix : indexAddrE (kt.at 15) 35 (sl Tree.cells (takenR [b.next] c.2).1) (.v (.int .i64 0)) = some (.cp (pickR b.next.tmp (leafT b.next) c.2).1.cells) := index_sl (P_kt 15) Tryz.underlying35 size37 Tree.cells Tree.cells_len (takenR [b.next] c.2).1 0 (by simp [takenR]) .i64
    rw [ix]
    simp only [Option.bind_some, openCp37']
    generalize (pickR b.next.tmp (leafT b.next) c.2).1 = tn
    rw [stN (sz37' (P_kt 15)) (by decide) (b := 1) (cs := o39 (nums b.tmps) (spanl b.spans) yL b.jump) (by rw [get_new _ _ _ (by omega)]; exact c1) (by show S'.floor ≤ 1; omega) rfl (by simp [o39])]
    rw [ldN (agg_st (P_kt 15) Tryz.underlying39) (sz39 (P_kt 15)) (put_get _ _ _) rfl, Option.bind_some]
    have hdec : ∀ {Z : Type} (K : cd39.α → Option Z), openAgg cd39 (.agg (splice (o39 (nums b.tmps) (spanl b.spans) yL b.jump) 2 (T37.enc tn.t37))) K = K (⟨nums b.tmps, yL, tn.t37.a_Tmp, tn.t37.a_Ty, tn.t37.a_C0, tn.t37.a_C1, tn.t37.a_C2, tn.t37.a_C3, tn.t37.kind, tn.t37.ty, tn.t37.op, tn.t37.off, tn.t37.l, b.jump, spanl b.spans⟩ : T39) := fun K => rfl
    rw [hdec]
    rw [stN (sz39 (P_kt 15)) (by decide) (b := 0) (cs := z39) (by rw [get_put _ _ _ _ (by decide), get_new _ _ _ (by omega)]; exact c0) (by show S'.floor ≤ 0; omega) rfl (by decide), splice39]
    rw [ldN (agg_st (P_kt 15) Tryz.underlying39) (sz39 (P_kt 15)) (put_get _ _ _) rfl, Option.bind_some]
    refine ⟨_, _, rfl, ?_⟩
    have hE : ∀ S, erase S yL = sl tsc c.1 := fun S => raw_erase r (accL_rd a) S
    rw [t37_eq]
    simp only [T39.enc, eraseL, erase, weakV, nums_erase, hE, sl_erase cl_tree, spanl, sl_erase cl_pc]
    rfl
  · have e1 : (errB b != 0) = true := by simpa using herr
    have h7 : errB b = 7 := by unfold errB at herr ⊢; split at herr <;> simp_all
    rw [e1, splitB_t]
    rw [stN (sz39 (P_kt 15)) (by decide) (b := 0) (cs := z39) hA (by omega) rfl (by decide), splice15]
    rw [ldN (agg_st (P_kt 15) Tryz.underlying39) (sz39 (P_kt 15)) (put_get _ _ _) rfl, Option.bind_some]
    unfold buildR
    rw [if_pos herr]
    exact ⟨_, _, rfl, rfl⟩
end Go.Sv
end
