/- Parts of the proofs of this seat's laws. -/
import Derived.Test.YtkflapebfmcmaaaGreatBOnce48
section
namespace Go.Sv
open Go Go.Proofs Go.Proofs.YtkflapebfmcmaaaGreat
set_option linter.all false
set_option maxRecDepth 100000

theorem spec53x (b : Block) (h0 : b.l.length ≤ 1000000000000000) (S : St) : ∃ v : Int, run kt (.func 53 [] []) [.agg b.t31.enc] S = some (.tuple [.v (.int .i64 (b.l.length : Int)), .v (.int .i64 v)], S) := by
  suffices ∃ v : Int, cBody (kt.at 53) h53 (run kt) (b.l.length + 1) (compF Tryz.f53) [.agg b.t31.enc] St0 = some (.tuple [.v (.int .i64 (b.l.length : Int)), .v (.int .i64 v)], St0) by
    obtain ⟨v, h⟩ := this
    exact ⟨v, go_closed ks_kt (f := 53) (fst := []) (cap := []) (args := [.agg b.t31.enc]) (S := S) h53 (b.l.length + 1) rfl (fn_kt 53 fn53) rfl (z := (.tuple [.v (.int .i64 (b.l.length : Int)), .v (.int .i64 v)], St0)) (by
      simp only [List.nil_append, List.append_nil, List.map_cons, List.map_nil, block_ws]
      exact h)⟩
  rw [tell53]
  simp only [splitB_dec]
  generalize hF : (fun vs0 S1 => _ : List SV → St → Option (Ex × List SV × St)) = F
  obtain ⟨vs, S', h1, rfl, a, rfl⟩ := iter_inv 0 (F := F) b.l.length (fun i vs S' => S' = St0 ∧ ∃ a : Int, vs = [.v (.int .i64 a), .v (.int .i64 (i : Int))])
    (fun i hi vs S' hI => by
      obtain ⟨rfl, a, rfl⟩ := hI
      have hlt : ((i : Nat) : Int) < ((b.l.length : Nat) : Int) := by omega
      rw [← hF]
      simp only [openHd_v, openInt_v, Block.t31, len_stmts (P_kt 53), Option.bind_some]
      rw [if_pos hlt, index_stmts (P_kt 53) .i64 b.l i hi]
      simp only [Option.bind_some, openCp57']
      simp only [Stmt.t57, len_atoms (P_kt 53), Option.bind_some, openInt_v]
      rw [wrap_in (a := (i : Int) + 1) (by omega) (by omega)]
      exact ⟨_, _, rfl, rfl, _, rfl⟩)
    (fun vs S' hI => by
      obtain ⟨rfl, a, rfl⟩ := hI
      rw [← hF]
      simp only [openHd_v, openInt_v, Block.t31, len_stmts (P_kt 53), Option.bind_some]
      rw [if_neg (by omega)])
    b.l.length 0 rfl [.v (.int .i64 1), .v (.int .i64 0)] St0 (b.l.length + 1) ⟨rfl, _, rfl⟩ (by omega)
  rw [h1]
  refine ⟨a, ?_⟩
  simp only [Option.bind_some, openHd_v, openInt_v, exits_exit, if_true, Block.t31, len_stmts (P_kt 53)]
theorem spec13x (b : Block) (h0 : b.l.length ≤ 1000000000000000) (h1 : 300 < b.l.length) (S : St) : run kt (.func 13 [] []) [.agg b.t31.enc] S = some (.v (.bool false), S) := by
  refine closed_bool h13 0 rfl (fn_kt 13 fn13) rfl ?_
  simp only [List.map_cons, List.map_nil, block_ws]
  rw [tell13]
  obtain ⟨v, e⟩ := spec53x b h0 St0
  rw [e]
  simp only [Option.bind_some, openTup, openHd_v, openInt_v, openNil]
  rw [show decide ((b.l.length : Int) ≤ 300) = false from decide_eq_false (by omega), splitB_f]
  simp only [Option.bind_some, openHd_v, openBool_v]
  exact exB _ _

theorem stB_out (b : Block) (hB : ∀ s ∈ b.l, s.l.length ≤ 1000000 ∧ s.e.l.length ≤ 1000000) : ∀ i, i ≤ b.l.length → ∀ x ∈ (stB b (b.l.take i)).1, TBs x ∧ x.l.length ≤ 1000000 := by
  intro i
  induction i with
  | zero => intro _ x hx; simp [stB] at hx
  | succ i ih =>
    intro hi
    have ih := ih (by omega)
    obtain ⟨_, h2⟩ := stB_bnd b hB i (by omega)
    have hb := hB b.l[i] (List.getElem_mem (by omega))
    rw [List.take_succ_eq_append_getElem (by omega), stB_snoc]
    generalize stB b (b.l.take i) = c at ih h2
    generalize b.l[i] = s at hb
    obtain ⟨g1, g2, g3⟩ := stmtR_TB hb.1 hb.2 h2
    have hx0 : (stmtR s c.2).1.l.length ≤ 1000000 := by
      by_cases hk : s.kind = 2
      · have : (stmtR s c.2).1.l = [] := by unfold stmtR; rw [if_pos hk]; rfl
        rw [this]; simp
      · rw [(stmtR_kind s c.2).2.2.2 hk]; exact hb.1
    have hset : ∀ p ∈ (stmtR s c.2).2, TBs (setT p) ∧ (setT p).l.length ≤ 1000000 := fun p hp => ⟨⟨g2 p hp, fun t ht => by simp [setT] at ht⟩, by simp [setT]⟩
    unfold stepB
    simp only
    have ho : ∀ x ∈ c.1 ++ ((stmtR s c.2).2.filter fun p => distM b.tmps (stmtR s c.2).1 p.2).map setT, TBs x ∧ x.l.length ≤ 1000000 := by
      intro x hx
      rcases List.mem_append.1 hx with hx | hx
      · exact ih x hx
      · obtain ⟨p, hp, rfl⟩ := List.mem_map.1 hx
        exact hset p (List.mem_filter.1 hp).1
    split
    · exact ho
    · intro x hx
      rcases List.mem_append.1 hx with hx | hx
      · exact ho x hx
      · simp only [List.mem_singleton] at hx; subst hx; exact ⟨g1, hx0⟩

theorem buildR_BT (b : Block) (hB : ∀ s ∈ b.l, s.l.length ≤ 1000000 ∧ s.e.l.length ≤ 1000000) : BT (buildR b).1 := by
  unfold buildR
  by_cases herr : errB b = 0
  · rw [if_neg (by simpa using herr)]
    obtain ⟨⟨l1, l2, l3, _, _⟩, _, _⟩ := okB_facts herr
    have hb := stB_bnd b hB b.l.length (Nat.le_refl _)
    have ho := stB_out b hB b.l.length (Nat.le_refl _)
    rw [List.take_length] at hb ho
    exact ⟨by show b.tmps.length ≤ _; omega, by show (stB b b.l).1.length ≤ _; omega, by show b.spans.length ≤ _; omega, pick_TB (leaf_TB _) hb.2, ho⟩
  · rw [if_pos herr]
    exact ⟨by simp [zTB], by simp [zTB], by simp [zTB], leaf_TB zA, fun s hs => by simp [zTB] at hs⟩

/-- What small lets in is small. -/
theorem small_facts {b : Block} (h : smallM b = true) : b.l.length ≤ 300 ∧ sumA b.l ≤ 3000 ∧ b.tmps.length ≤ 4100 ∧ b.spans.length ≤ 200 := by
  unfold smallM at h
  simp only [Bool.and_eq_true, decide_eq_true_eq] at h
  omega
theorem sumA_mem : ∀ {l : List Stmt} {s : Stmt}, s ∈ l → s.l.length + s.e.l.length ≤ sumA l
  | x :: r, s, h => by
    rw [sumA_cons]
    rcases List.mem_cons.1 h with rfl | h
    · omega
    · have := sumA_mem h; omega
theorem sumA_le : ∀ {l : List Stmt} {c : Nat}, (∀ s ∈ l, s.l.length ≤ c ∧ s.e.l.length ≤ c) → sumA l ≤ l.length * (2 * c)
  | [], c, _ => by simp [sumA]
  | x :: r, c, h => by
    have h1 := sumA_le (l := r) (c := c) fun s hs => h s (by simp [hs])
    have h2 := h x (by simp)
    rw [sumA_cons, List.length_cons, Nat.add_mul]; omega
theorem okL_len {l : List Atom} (h : okL l) : l.length ≤ 4398046511104 := by
  have := h.1
  have e : reachBytes = 140737488351232 := by decide
  omega
theorem inB_len {b : Block} (h : InB b) : b.l.length ≤ 1000000000000000 ∧ b.tmps.length ≤ 1000000000000000 ∧ b.spans.length ≤ 1000000000000000 := by
  have e : reachBytes = 140737488351232 := by decide
  have h1 := h.tmps
  have h2 := h.l
  have h3 := h.spans
  omega
/-- A block that came in is small, or it is let go. -/
theorem spec13i {b : Block} (h : InB b) (S : St) : ∃ c, run kt (.func 13 [] []) [.agg b.t31.enc] S = some (.v (.bool c), S) ∧ (c = true → b.l.length ≤ 300 ∧ sumA b.l ≤ 3000 ∧ b.tmps.length ≤ 4100 ∧ b.spans.length ≤ 200) := by
  obtain ⟨h1, h2, h3⟩ := inB_len h
  by_cases hl : b.l.length ≤ 300
  · have hs : sumA b.l ≤ b.l.length * (2 * 4398046511104) := sumA_le fun s hs => ⟨okL_len (h.st s hs).2, okL_len (h.st s hs).1⟩
    exact ⟨smallM b, spec13 b h1 (by omega) S, small_facts⟩
  · exact ⟨false, spec13x b h1 (by omega) S, fun h => by cases h⟩
theorem small_bnd {b : Block} (h : InB b) (hs : sumA b.l ≤ 3000) : bndB b := fun s hm => by
  have := sumA_mem hm
  exact ⟨⟨by omega, by omega⟩, (h.st s hm).2.2, (h.st s hm).1.2⟩

theorem run12b (S : St) : run kt (.func 12 [] []) [] S = some (.v (.bool true), S) := run_prim (k := kt) (p := saneP) rfl rfl
end Go.Sv
end
section
namespace Go.Sv
open Go Go.Proofs
set_option linter.all false
set_option maxRecDepth 1000000
set_option maxHeartbeats 0
def h26 : H := { hh with live := fun b => match b with | 0 => [(5, 1), (6, 1)] | 2 => [(5, 1), (8, 1)] | _ => [], keep := fun b => match b with  | _ => none }
theorem tell26 (N : Nat) (u0 : T31) (u1 : Int) : cBody (kt.at 26) h26 (run kt) N (compF Tryz.f26) [.agg u0.enc, .v (.int .i64 u1)] St0 = (iter (fun vs0 S1 => openHd vs0 fun y2 r3 => openInt y2 fun a4 => openHd r3 fun y5 r6 => openInt y5 fun a7 => (lenE (kt.at 26) 23 u0.l).bind fun r8 => openInt r8 fun a9 => (splitB (.v (.bool (decide (a7 < a9))))
 ((indexAddrE (kt.at 26) 23 u0.l (.v (.int .i64 a7))).bind fun r10 => openCp cd57 r10 fun t11 => (appendE (kt.at 26) 53 .emp t11.e_L S1).bind fun p12 => (indexAddrE (kt.at 26) 23 u0.l (.v (.int .i64 a7))).bind fun r13 => openCp cd57 r13 fun t14 => (appendE (kt.at 26) 53 p12.1 t14.l p12.2).bind fun p15 => (iter (fun vs16 S17 => openHd vs16 fun y18 r19 => openInt y18 fun a20 => openHd r19 fun y21 r22 => openInt y21 fun a23 => (lenE (kt.at 26) 53 p15.1).bind fun r24 => openInt r24 fun a25 => (splitB (.v (.bool (decide (a23 < a25))))
 ((indexAddrE (kt.at 26) 53 p15.1 (.v (.int .i64 a23))).bind fun r26 => openCp cd28 r26 fun t27 => (splitB (.v (.bool (t27.tmp == u1)))
 ((some (.normal, ([(.v (.int .i64 (IntKind.wrap .i64 (a20 + (1 : Int))))), (.v (.int .i64 (IntKind.wrap .i64 (a23 + (1 : Int)))))], S17))))
 ((some (.normal, ([(.v (.int .i64 a20)), (.v (.int .i64 (IntKind.wrap .i64 (a23 + (1 : Int)))))], S17))))))
 ((some ((.exit 2), ([(.v (.int .i64 a20)), (.v (.int .i64 a23))], S17)))))) N [(.v (.int .i64 a4)), (.v (.int .i64 (0 : Int)))] p15.2).bind fun q28 => openHd q28.2.1 fun y29 r30 => openInt y29 fun a31 => openHd r30 fun y32 r33 => openInt y32 fun a34 => (exits q28.1 (fun i35 => (if i35 = 2 then (some (.normal, ([(.v (.int .i64 a31)), (.v (.int .i64 (IntKind.wrap .i64 (a7 + (1 : Int)))))], q28.2.2))) else (if i35 = 1 then (some (.normal, ([(.v (.int .i64 a31)), (.v (.int .i64 (IntKind.wrap .i64 (a7 + (1 : Int)))))], q28.2.2))) else (some ((.exit i35), ([(.v (.int .i64 a31)), (.v (.int .i64 a7))], q28.2.2)))))) ((some (.ret, ([(.v (.int .i64 a31)), (.v (.int .i64 a7))], q28.2.2))))))
 ((some ((.exit 0), ([(.v (.int .i64 a4)), (.v (.int .i64 a7))], S1)))))) N [(.v (.int .i64 (0 : Int))), (.v (.int .i64 (0 : Int)))] St0).bind fun q36 => openHd q36.2.1 fun y37 r38 => openInt y37 fun a39 => openHd r38 fun y40 r41 => openInt y40 fun a42 => (exits q36.1 (fun i43 => (if i43 = 0 then (splitB (.v (.bool (u0.next_Tmp == u1)))
 ((some ((.v (.int .i64 (IntKind.wrap .i64 (a39 + (1 : Int))))), q36.2.2)))
 ((some ((.v (.int .i64 a39)), q36.2.2)))) else none)) ((some ((.v (.int .i64 (0 : Int))), q36.2.2)))) := by kernel_rfl
theorem fn26 : fnsK 26 = some (compF Tryz.f26) := by kernel_rfl
def h27 : H := { hh with live := fun b => match b with | 0 => [(5, 0), (6, 1)] | 2 => [(5, 0), (8, 1)] | 4 => [(4, 2), (9, 1)] | _ => [], keep := fun b => match b with  | _ => none }
theorem tell27 (N : Nat) (u0 : T39) (u1 : Int) : cBody (kt.at 27) h27 (run kt) N (compF Tryz.f27) [.agg u0.enc, .v (.int .i64 u1)] St0 = (run kt (.func 84 [] []) [(.agg [(.v (.int .i64 u0.next_A_Tmp)), (.v (.int .i64 u0.next_A_Ty)), (.v (.int .u32 u0.next_A_C0)), (.v (.int .u32 u0.next_A_C1)), (.v (.int .u32 u0.next_A_C2)), (.v (.int .u32 u0.next_A_C3)), (.v (.int .i64 u0.next_Kind)), (.v (.int .i64 u0.next_Ty)), (.v (.int .i64 u0.next_Op)), (.v (.int .i64 u0.next_Off)), u0.next_L])] St0).bind fun p0 => (iter (fun vs1 S2 => openHd vs1 fun y3 r4 => openHd r4 fun y5 r6 => openInt y5 fun a7 => (lenE (kt.at 27) 34 u0.l).bind fun r8 => openInt r8 fun a9 => (splitB (.v (.bool (decide (a7 < a9))))
 ((indexAddrE (kt.at 27) 34 u0.l (.v (.int .i64 a7))).bind fun r10 => openCp cd59 r10 fun t11 => (run kt (.func 32 [] []) [(.agg t11.enc)] S2).bind fun p12 => (iter (fun vs13 S14 => openHd vs13 fun y15 r16 => openHd r16 fun y17 r18 => openInt y17 fun a19 => (lenE (kt.at 27) 35 p12.1).bind fun r20 => openInt r20 fun a21 => (splitB (.v (.bool (decide (a19 < a21))))
 ((indexAddrE (kt.at 27) 35 p12.1 (.v (.int .i64 a19))).bind fun r22 => openCp cd37 r22 fun t23 => (run kt (.func 84 [] []) [(.agg t23.enc)] S14).bind fun p24 => (appendE (kt.at 27) 53 y15 p24.1 p24.2).bind fun p25 => (some (.normal, ([p25.1, (.v (.int .i64 (IntKind.wrap .i64 (a19 + (1 : Int)))))], p25.2))))
 ((some ((.exit 2), ([y15, (.v (.int .i64 a19))], S14)))))) N [y3, (.v (.int .i64 (0 : Int)))] p12.2).bind fun q26 => openHd q26.2.1 fun y27 r28 => openHd r28 fun y29 r30 => openInt y29 fun a31 => (exits q26.1 (fun i32 => (if i32 = 2 then (some (.normal, ([y27, (.v (.int .i64 (IntKind.wrap .i64 (a7 + (1 : Int)))))], q26.2.2))) else (if i32 = 1 then (some (.normal, ([y27, (.v (.int .i64 (IntKind.wrap .i64 (a7 + (1 : Int)))))], q26.2.2))) else (some ((.exit i32), ([y27, (.v (.int .i64 a7))], q26.2.2)))))) ((some (.ret, ([y27, (.v (.int .i64 a7))], q26.2.2))))))
 ((some ((.exit 0), ([y3, (.v (.int .i64 a7))], S2)))))) N [p0.1, (.v (.int .i64 (0 : Int)))] p0.2).bind fun q33 => openHd q33.2.1 fun y34 r35 => openHd r35 fun y36 r37 => openInt y36 fun a38 => (exits q33.1 (fun i39 => (if i39 = 0 then (iter (fun vs40 S41 => openHd vs40 fun y42 r43 => openBool y42 fun b44 => openHd r43 fun y45 r46 => openInt y45 fun a47 => (lenE (kt.at 27) 53 y34).bind fun r48 => openInt r48 fun a49 => (splitB (.v (.bool (decide (a47 < a49))))
 ((indexAddrE (kt.at 27) 53 y34 (.v (.int .i64 a47))).bind fun r50 => openCp cd28 r50 fun t51 => (splitB (.v (.bool (t51.tmp == u1)))
 ((some (.ret, ([(.v (.bool true)), (.v (.int .i64 a47))], S41))))
 ((some (.normal, ([(.v (.bool b44)), (.v (.int .i64 (IntKind.wrap .i64 (a47 + (1 : Int)))))], S41))))))
 ((some ((.exit 4), ([(.v (.bool b44)), (.v (.int .i64 a47))], S41)))))) N [(.v (.bool false)), (.v (.int .i64 (0 : Int)))] q33.2.2).bind fun q52 => openHd q52.2.1 fun y53 r54 => openBool y53 fun b55 => openHd r54 fun y56 r57 => openInt y56 fun a58 => (exits q52.1 (fun i59 => (if i59 = 4 then (some ((.v (.bool false)), q52.2.2)) else none)) ((some ((.v (.bool b55)), q52.2.2)))) else none)) ((some ((.v (.bool false)), q33.2.2)))) := by kernel_rfl
theorem fn27 : fnsK 27 = some (compF Tryz.f27) := by kernel_rfl
def h84 : H := { hh with live := fun b => match b with | 0 => [(3, 0), (4, 1)] | _ => [], keep := fun b => match b with  | _ => none }
theorem tell84 (N : Nat) (u0 : T37) (S : St) : cBody (kt.at 84) h84 (run kt) N (compF Tryz.f84) [.agg u0.enc] S = (run kt (.func 35 [] []) [(.agg u0.enc)] S).bind fun p0 => openBool p0.1 fun b1 => (splitB (.v (.bool b1))
 ((some ((.sl (some (St.next p0.2)) 1 [(.v (.int .i64 u0.a_Tmp)), (.v (.int .i64 u0.a_Ty)), (.v (.int .u32 u0.a_C0)), (.v (.int .u32 u0.a_C1)), (.v (.int .u32 u0.a_C2)), (.v (.int .u32 u0.a_C3))]), (St.alloc p0.2 (.own 6 6)))))
 ((iter (fun vs2 S3 => openHd vs2 fun y4 r5 => openHd r5 fun y6 r7 => openInt y6 fun a8 => (lenE (kt.at 84) 35 u0.l).bind fun r9 => openInt r9 fun a10 => (splitB (.v (.bool (decide (a8 < a10))))
 ((indexAddrE (kt.at 84) 35 u0.l (.v (.int .i64 a8))).bind fun r11 => openCp cd37 r11 fun t12 => (run kt (.func 84 [] []) [(.agg t12.enc)] S3).bind fun p13 => (appendE (kt.at 84) 53 y4 p13.1 p13.2).bind fun p14 => (some (.normal, ([p14.1, (.v (.int .i64 (IntKind.wrap .i64 (a8 + (1 : Int)))))], p14.2))))
 ((some ((.exit 0), ([y4, (.v (.int .i64 a8))], S3)))))) N [(.v (.slice none 0 0)), (.v (.int .i64 (0 : Int)))] p0.2).bind fun q15 => openHd q15.2.1 fun y16 r17 => openHd r17 fun y18 r19 => openInt y18 fun a20 => (exits q15.1 (fun i21 => (if i21 = 0 then (some (y16, q15.2.2)) else none)) ((some ((.v (.slice none 0 0)), q15.2.2)))))) := by kernel_rfl
theorem fn84 : fnsK 84 = some (compF Tryz.f84) := by kernel_rfl
def h32 : H := { hh with live := fun b => match b with  | _ => [], keep := fun b => match b with  | _ => none }
theorem tell32 (N : Nat) (u0 : T59) : cBody (kt.at 32) h32 (run kt) N (compF Tryz.f32) [.agg u0.enc] St0 = (splitB (.v (.bool (u0.kind == (2 : Int))))
 ((appendE (kt.at 32) 35 (.sl (some 1) 1 [(.v (.int .i64 u0.e_A_Tmp)), (.v (.int .i64 u0.e_A_Ty)), (.v (.int .u32 u0.e_A_C0)), (.v (.int .u32 u0.e_A_C1)), (.v (.int .u32 u0.e_A_C2)), (.v (.int .u32 u0.e_A_C3)), (.v (.int .i64 u0.e_Kind)), (.v (.int .i64 u0.e_Ty)), (.v (.int .i64 u0.e_Op)), (.v (.int .i64 u0.e_Off)), u0.e_L]) u0.l (St.alloc (St.alloc St0 (.own 11 11)) (.own 11 11))).bind fun p0 => (some (p0.1, p0.2)))
 ((appendE (kt.at 32) 35 (.v (.slice none 0 0)) u0.l St0).bind fun p1 => (some (p1.1, p1.2)))) := by kernel_rfl
theorem fn32 : fnsK 32 = some (compF Tryz.f32) := by kernel_rfl
end Go.Sv
end
