/- Parts of the proofs of this seat's laws. -/
import Derived.Test.YtkflapebfmcmaaaGreatBOnce46
section
namespace Go.Sv
open Go Go.Proofs
set_option linter.all false
set_option maxRecDepth 1000000
set_option maxHeartbeats 0
noncomputable def G14 (cb : Nat) (y : SV) (n : Int) : List SV → St → Option (Ex × List SV × St) := (fun vs22 S23 => openHd vs22 fun y24 r25 => openInt y24 fun a26 => (splitB (.v (.bool (decide (a26 < n))))
 ((indexAddrE (kt.at 14) 53 y (.v (.int .i64 a26))).bind fun r27 => openCp cd28 r27 fun t28 => storeK (kt.at 14) 28 (.ptr (St.next S23) 0) (.agg t28.enc) (St.alloc S23 (.cells [(.v (.int .i64 (0 : Int))), (.v (.int .i64 (0 : Int))), (.v (.int .u32 (0 : Int))), (.v (.int .u32 (0 : Int))), (.v (.int .u32 (0 : Int))), (.v (.int .u32 (0 : Int)))])) fun S29 => (loadE (kt.at 14) 28 (.ptr (St.next S23) 0) S29).bind fun r30 => openAgg cd28 r30 fun t31 => (run kt (.func 56 [] [(.ptr cb 0)]) [(.agg t31.enc)] S29).bind fun p32 => (some (.normal, ([(.v (.int .i64 (IntKind.wrap .i64 (a26 + (1 : Int)))))], p32.2))))
 ((some ((.exit 2), ([(.v (.int .i64 a26))], S23))))))
noncomputable def F14a (N cb : Nat) (u0 : T31) (n : Int) : List SV → St → Option (Ex × List SV × St) := (fun vs8 S9 => openHd vs8 fun y10 r11 => openInt y10 fun a12 => (splitB (.v (.bool (decide (a12 < n))))
 ((indexAddrE (kt.at 14) 23 u0.l (.v (.int .i64 a12))).bind fun r13 => openCp cd57 r13 fun t14 => storeK (kt.at 14) 57 (.ptr (St.next S9) 0) (.agg t14.enc) (St.alloc S9 (.cells [(.v (.int .i64 (0 : Int))), (.v (.int .i64 (0 : Int))), (.v (.int .i64 (0 : Int))), (.v (.int .i64 (0 : Int))), (.v (.int .i64 (0 : Int))), (.v (.int .u32 (0 : Int))), (.v (.int .u32 (0 : Int))), (.v (.int .i64 (0 : Int))), (.v (.int .i64 (0 : Int))), (.v (.int .i64 (0 : Int))), (.v (.int .i64 (0 : Int))), (.v (.slice none 0 0)), (.v (.slice none 0 0))])) fun S15 => (if (St.next S9) < (St.next S15) then (loadE (kt.at 14) 53 (.ptr (St.next S9) 11) S15).bind fun r16 => (run kt (.func 57 [] []) [r16] S15).bind fun p17 => (if (St.next S9) < (St.next S15) then (loadE (kt.at 14) 53 (.ptr (St.next S9) 12) p17.2).bind fun r18 => (appendE (kt.at 14) 53 p17.1 r18 p17.2).bind fun p19 => (lenE (kt.at 14) 53 p19.1).bind fun r20 => openInt r20 fun a21 => (iter (G14 cb p19.1 a21) N [(.v (.int .i64 (0 : Int)))] p19.2).bind fun q33 => openHd q33.2.1 fun y34 r35 => openInt y34 fun a36 => (exits q33.1 (fun i37 => (if i37 = 2 then (some (.normal, ([(.v (.int .i64 (IntKind.wrap .i64 (a12 + (1 : Int)))))], q33.2.2))) else (if i37 = 1 then (some (.normal, ([(.v (.int .i64 (IntKind.wrap .i64 (a12 + (1 : Int)))))], q33.2.2))) else (some ((.exit i37), ([(.v (.int .i64 a12))], q33.2.2)))))) ((some (.ret, ([(.v (.int .i64 a12))], q33.2.2))))) else none) else none))
 ((some ((.exit 0), ([(.v (.int .i64 a12))], S9))))))
noncomputable def F14b (cb : Nat) (u0 : T31) (n : Int) : List SV → St → Option (Ex × List SV × St) := (fun vs46 S47 => openHd vs46 fun y48 r49 => openInt y48 fun a50 => (splitB (.v (.bool (decide (a50 < n))))
 ((indexAddrE (kt.at 14) 23 u0.l (.v (.int .i64 a50))).bind fun r51 => openCp cd57 r51 fun t52 => storeK (kt.at 14) 57 (.ptr (St.next S47) 0) (.agg t52.enc) (St.alloc S47 (.cells [(.v (.int .i64 (0 : Int))), (.v (.int .i64 (0 : Int))), (.v (.int .i64 (0 : Int))), (.v (.int .i64 (0 : Int))), (.v (.int .i64 (0 : Int))), (.v (.int .u32 (0 : Int))), (.v (.int .u32 (0 : Int))), (.v (.int .i64 (0 : Int))), (.v (.int .i64 (0 : Int))), (.v (.int .i64 (0 : Int))), (.v (.int .i64 (0 : Int))), (.v (.slice none 0 0)), (.v (.slice none 0 0))])) fun S53 => (loadE (kt.at 14) 57 (.ptr (St.next S47) 0) S53).bind fun r54 => openAgg cd57 r54 fun t55 => (loadE (kt.at 14) 87 (.ptr cb 0) S53).bind fun r56 => (run kt (.func 58 [] []) [(.agg t55.enc), (.func 59 [r56] [])] S53).bind fun p57 => openAgg cd59 p57.1 fun t58 => storeK (kt.at 14) 59 (.ptr (St.next p57.2) 0) (.agg t58.enc) (St.alloc p57.2 (.cells [(.v (.int .i64 (0 : Int))), (.v (.int .i64 (0 : Int))), (.v (.int .i64 (0 : Int))), (.v (.int .i64 (0 : Int))), (.v (.int .i64 (0 : Int))), (.v (.int .u32 (0 : Int))), (.v (.int .u32 (0 : Int))), (.v (.int .i64 (0 : Int))), (.v (.int .i64 (0 : Int))), (.v (.int .u32 (0 : Int))), (.v (.int .u32 (0 : Int))), (.v (.int .u32 (0 : Int))), (.v (.int .u32 (0 : Int))), (.v (.int .i64 (0 : Int))), (.v (.int .i64 (0 : Int))), (.v (.int .i64 (0 : Int))), (.v (.int .i64 (0 : Int))), (.v (.slice none 0 0)), (.v (.slice none 0 0))])) fun S59 => (loadE (kt.at 14) 87 (.ptr cb 0) S59).bind fun r60 => (loadE (kt.at 14) 59 (.ptr (St.next p57.2) 0) S59).bind fun r61 => openAgg cd59 r61 fun t62 => (run kt (.func 60 [] []) [r60, (.agg t62.enc)] S59).bind fun p63 => ((if (St.next S47) < (St.next p63.2) then (loadE (kt.at 14) 3 (.ptr (St.next S47) 0) p63.2).bind fun r64 => openInt r64 fun a65 => (splitB (.v (.bool (a65 == (2 : Int))))
 ((if cb < (St.next p63.2) then (loadE (kt.at 14) 87 (.ptr cb 0) p63.2).bind fun r66 => (nilE r66).bind fun r67 => (fieldAddrE (kt.at 14) 92 r67 1).bind fun r68 => loadK (kt.at 14) (St.next p63.2) 89 r68 p63.2 fun r69 => (if (St.next S47) < (St.next p63.2) then (loadE (kt.at 14) 3 (.ptr (St.next S47) 1) p63.2).bind fun r70 => openInt r70 fun a71 => (lookupE (kt.at 14) 89 r69 (.v (.int .i64 a71)) false p63.2).bind fun r72 => (binE (kt.at 14) .eql 3 r72 (.v (.int .i64 (1 : Int)))).bind fun r73 => (splitG r73
 ((if (St.next S47) < (St.next p63.2) then (loadE (kt.at 14) 3 (.ptr (St.next S47) 7) p63.2).bind fun r74 => openInt r74 fun a75 => (some [(.v (.bool (a75 != (1 : Int))))]) else none))
 ((some [(.v (.bool false))]))
 ((splitG r73
 (none)
 ((some [(.v (.bool false))]))
 ((splitG r73
 (none)
 ((some [(.v (.bool false))]))
 ((splitG r73
 (none)
 ((some [(.v (.bool false))]))
 ((splitB r73
 ((some [(.v undef)]))
 ((some [(.v (.bool false))]))))))))))) else none) else none))
 ((if (decide (cb < (St.next p63.2))) = true then (some [(.v (.bool false))]) else none))) else none)).bind fun vs76 => openHd vs76 fun y77 r78 => openBool y77 fun b79 => (splitB (.v (.bool b79))
 ((if cb < (St.next p63.2) then (loadE (kt.at 14) 87 (.ptr cb 0) p63.2).bind fun r80 => (if cb < (St.next p63.2) then (loadE (kt.at 14) 87 (.ptr cb 0) p63.2).bind fun r81 => (nilE r81).bind fun r82 => (fieldAddrE (kt.at 14) 92 r82 2).bind fun r83 => loadK (kt.at 14) (St.next p63.2) 90 r83 p63.2 fun r84 => (if (St.next S47) < (St.next p63.2) then (loadE (kt.at 14) 3 (.ptr (St.next S47) 1) p63.2).bind fun r85 => openInt r85 fun a86 => (if (St.next p57.2) < (St.next p63.2) then (loadE (kt.at 14) 37 (.ptr (St.next p57.2) 7) p63.2).bind fun r87 => openAgg cd37 r87 fun t88 => (appendE (kt.at 14) 90 r84 (.arr (St.next p63.2) 1) (St.alloc p63.2 (.arr 12 [(.v (.int .i64 a86)), (.v (.int .i64 t88.a_Tmp)), (.v (.int .i64 t88.a_Ty)), (.v (.int .u32 t88.a_C0)), (.v (.int .u32 t88.a_C1)), (.v (.int .u32 t88.a_C2)), (.v (.int .u32 t88.a_C3)), (.v (.int .i64 t88.kind)), (.v (.int .i64 t88.ty)), (.v (.int .i64 t88.op)), (.v (.int .i64 t88.off)), t88.l]))).bind fun p89 => (if (St.next p63.2) ≤ (St.next p89.2) then (if asked (kt.at 14) [(87, (.ptr cb 0))] (St.alloc p63.2 (.arr 12 [(.v (.int .i64 a86)), (.v (.int .i64 t88.a_Tmp)), (.v (.int .i64 t88.a_Ty)), (.v (.int .u32 t88.a_C0)), (.v (.int .u32 t88.a_C1)), (.v (.int .u32 t88.a_C2)), (.v (.int .u32 t88.a_C3)), (.v (.int .i64 t88.kind)), (.v (.int .i64 t88.ty)), (.v (.int .i64 t88.op)), (.v (.int .i64 t88.off)), t88.l])) p89.2 = true then (nilE r80).bind fun r90 => (fieldAddrE (kt.at 14) 92 r90 2).bind fun r91 => storeK (kt.at 14) 90 r91 p89.1 p89.2 fun S92 => (if (St.next p63.2) ≤ (St.next S92) then (some (.normal, ([(.v (.int .i64 (IntKind.wrap .i64 (a50 + (1 : Int)))))], S92))) else none) else none) else none) else none) else none) else none) else none))
 ((if cb < (St.next p63.2) then (loadE (kt.at 14) 87 (.ptr cb 0) p63.2).bind fun r93 => (if cb < (St.next p63.2) then (loadE (kt.at 14) 87 (.ptr cb 0) p63.2).bind fun r94 => (nilE r94).bind fun r95 => (fieldAddrE (kt.at 14) 92 r95 0).bind fun r96 => (fieldAddrE (kt.at 14) 39 r96 1).bind fun r97 => loadK (kt.at 14) (St.next p63.2) 34 r97 p63.2 fun r98 => (if (St.next p57.2) < (St.next p63.2) then (loadE (kt.at 14) 59 (.ptr (St.next p57.2) 0) p63.2).bind fun r99 => openAgg cd59 r99 fun t100 => (appendE (kt.at 14) 34 r98 (.sl (some (St.next p63.2)) 1 t100.enc) (St.alloc p63.2 (.own 19 19))).bind fun p101 => (nilE r93).bind fun r102 => (fieldAddrE (kt.at 14) 92 r102 0).bind fun r103 => (fieldAddrE (kt.at 14) 39 r103 1).bind fun r104 => storeK (kt.at 14) 34 r104 p101.1 p101.2 fun S105 => (if (St.next p63.2) ≤ (St.next S105) then (some (.normal, ([(.v (.int .i64 (IntKind.wrap .i64 (a50 + (1 : Int)))))], S105))) else none) else none) else none) else none))))
 ((some ((.exit 4), ([(.v (.int .i64 a50))], S47))))))
theorem tell14' (N : Nat) (u0 : T31) : cBody (kt.at 14) h14 (run kt) N (compF Tryz.f14) [.agg u0.enc] St0 = (run kt (.func 54 [] []) [(.agg u0.enc)] (St.alloc St0 (.cells [(.v (.slice none 0 0)), (.v (.slice none 0 0)), (.v (.int .i64 (0 : Int))), (.v (.int .i64 (0 : Int))), (.v (.int .u32 (0 : Int))), (.v (.int .u32 (0 : Int))), (.v (.int .u32 (0 : Int))), (.v (.int .u32 (0 : Int))), (.v (.int .i64 (0 : Int))), (.v (.int .i64 (0 : Int))), (.v (.int .i64 (0 : Int))), (.v (.int .i64 (0 : Int))), (.v (.slice none 0 0)), (.v (.int .i64 (0 : Int))), (.v (.slice none 0 0))]))).bind fun p0 => openInt p0.1 fun a1 => (splitB (.v (.bool (a1 != (0 : Int))))
 (storeK (kt.at 14) 39 (.ptr 0 0) (.agg [(.v (.slice none 0 0)), (.v (.slice none 0 0)), (.v (.int .i64 (0 : Int))), (.v (.int .i64 (0 : Int))), (.v (.int .u32 (0 : Int))), (.v (.int .u32 (0 : Int))), (.v (.int .u32 (0 : Int))), (.v (.int .u32 (0 : Int))), (.v (.int .i64 (0 : Int))), (.v (.int .i64 (0 : Int))), (.v (.int .i64 (0 : Int))), (.v (.int .i64 (0 : Int))), (.v (.slice none 0 0)), (.v (.int .i64 (0 : Int))), (.v (.slice none 0 0))]) p0.2 fun S2 => (loadE (kt.at 14) 39 (.ptr 0 0) S2).bind fun r3 => (some ((.tuple [r3, (.v (.int .i64 (7 : Int)))]), S2)))
 ((run kt (.func 55 [] []) [(.agg u0.enc)] p0.2).bind fun p4 => storeK (kt.at 14) 87 (.ptr (St.next p4.2) 0) p4.1 (St.alloc p4.2 (.cells [(.v (.pointer none))])) fun S5 => (lenE (kt.at 14) 23 u0.l).bind fun r6 => openInt r6 fun a7 => (iter (F14a N (St.next p4.2) u0 a7) N [(.v (.int .i64 (0 : Int)))] S5).bind fun q38 => openHd q38.2.1 fun y39 r40 => openInt y39 fun a41 => (exits q38.1 (fun i42 => (if i42 = 0 then (run kt (.func 56 [] [(.ptr (St.next p4.2) 0)]) [(.agg [(.v (.int .i64 u0.next_Tmp)), (.v (.int .i64 u0.next_Ty)), (.v (.int .u32 u0.next_C0)), (.v (.int .u32 u0.next_C1)), (.v (.int .u32 u0.next_C2)), (.v (.int .u32 u0.next_C3))])] q38.2.2).bind fun p43 => (lenE (kt.at 14) 23 u0.l).bind fun r44 => openInt r44 fun a45 => (iter (F14b (St.next p4.2) u0 a45) N [(.v (.int .i64 (0 : Int)))] p43.2).bind fun q106 => openHd q106.2.1 fun y107 r108 => openInt y107 fun a109 => (exits q106.1 (fun i110 => (if i110 = 4 then (if (St.next p4.2) < (St.next q106.2.2) then (loadE (kt.at 14) 87 (.ptr (St.next p4.2) 0) q106.2.2).bind fun r111 => (if (St.next p4.2) < (St.next q106.2.2) then (loadE (kt.at 14) 87 (.ptr (St.next p4.2) 0) q106.2.2).bind fun r112 => (run kt (.func 59 [] []) [r112, (.agg [(.v (.int .i64 u0.next_Tmp)), (.v (.int .i64 u0.next_Ty)), (.v (.int .u32 u0.next_C0)), (.v (.int .u32 u0.next_C1)), (.v (.int .u32 u0.next_C2)), (.v (.int .u32 u0.next_C3))])] q106.2.2).bind fun p113 => openAgg cd37 p113.1 fun t114 => (if (St.next q106.2.2) ≤ (St.next p113.2) then (if asked (kt.at 14) [(87, (.ptr (St.next p4.2) 0))] q106.2.2 p113.2 = true then (nilE r111).bind fun r115 => (fieldAddrE (kt.at 14) 92 r115 0).bind fun r116 => (fieldAddrE (kt.at 14) 39 r116 2).bind fun r117 => storeK (kt.at 14) 37 r117 (.agg t114.enc) p113.2 fun S118 => (if (St.next q106.2.2) ≤ (St.next S118) then (loadE (kt.at 14) 87 (.ptr (St.next p4.2) 0) S118).bind fun r119 => (nilE r119).bind fun r120 => (fieldAddrE (kt.at 14) 92 r120 0).bind fun r121 => (loadE (kt.at 14) 39 r121 S118).bind fun r122 => openAgg cd39 r122 fun t123 => storeK (kt.at 14) 39 (.ptr 0 0) (.agg t123.enc) S118 fun S124 => (loadE (kt.at 14) 39 (.ptr 0 0) S124).bind fun r125 => (some ((.tuple [r125, (.v (.int .i64 (0 : Int)))]), S124)) else none) else none) else none) else none) else none) else none)) ((loadE (kt.at 14) 39 (.ptr 0 0) q106.2.2).bind fun r126 => (some ((.tuple [r126, (.v (.int .i64 (0 : Int)))]), q106.2.2)))) else none)) ((loadE (kt.at 14) 39 (.ptr 0 0) q38.2.2).bind fun r127 => (some ((.tuple [r127, (.v (.int .i64 (0 : Int)))]), q38.2.2))))))  := tell14 N u0
end Go.Sv
end
section
namespace Go.Sv
open Go Go.Proofs Go.Proofs.YtkflapebfmcmaaaGreat
set_option linter.all false
set_option maxRecDepth 100000

theorem bytes14a : ∃ n, bytes? (kt.at 14) 28 = some n ∧ n ≠ 0 ∧ n ≤ 1000 := bytesU (by kernel_rfl)
theorem zero14a : ∃ z, zero? (kt.at 14) 28 = some z ∧ z.length = 6 := zlenU (by kernel_rfl)

/-- The uses in a list are counted. -/
theorem loopG (L : List Atom) (hL : L.length ≤ 400000) {y : SV} {S0 : St} (hy : Own ac 6 L y S0) {tm sp : SV} {j : Int} {cb lo : Nat} {out : List TStmt} {w : Wt} {d : List Atom} {S : St} (h : CI tm sp j cb lo out w d S) (hd : d.length + L.length ≤ 1000000000) :
    ∃ S', iter (G14 cb y (L.length : Int)) 1000000 [.v (.int .i64 (0 : Int))] S = some (.exit 2, [.v (.int .i64 (L.length : Int))], S') ∧ CI tm sp j cb lo out w (d ++ L) S' := by
  obtain ⟨vs, S', h1, rfl, h2⟩ := iter_inv 2 (F := G14 cb y (L.length : Int)) L.length
    (fun i vs S' => vs = [.v (.int .i64 (i : Int))] ∧ CI tm sp j cb lo out w (d ++ L.take i) S')
    (fun i hi vs S' hI => by
      obtain ⟨rfl, h⟩ := hI
      have hlt : ((i : Nat) : Int) < ((L.length : Nat) : Int) := by omega
      have hfl : S'.floor ≤ S'.next := by rw [h.bs.fl]; omega
      unfold G14
      simp only [openHd_v, openInt_v, splitB_dec]
      rw [if_pos hlt, own_index (P_kt 14) Tryz.underlying53 size28' ac_len hy i hi .i64]
      simp only [Option.bind_some, show ∀ (K : cd28.α → Option (Ex × List SV × St)), openCp cd28 (.cp (ac L[i])) K = K L[i].t28 from fun K => rfl]
      rw [store_box (size28k (P_kt 14)) (by decide) hfl rfl rfl, load_box (agg_st (P_kt 14) Tryz.underlying28) (size28k (P_kt 14)) rfl]
      simp only [Option.bind_some, openAgg28]
      obtain ⟨T, e, c, _⟩ := spec56 L[i] (h.box _ (.cells L[i].t28.enc)) (by simp; omega)
      rw [e]
      simp only [Option.bind_some]
      rw [wrap_in (by omega) (by omega)]
      refine ⟨_, _, rfl, rfl, ?_⟩
      rw [List.take_succ_eq_append_getElem hi, ← List.append_assoc]
      exact c)
    (fun vs S' hI => by
      obtain ⟨rfl, _⟩ := hI
      unfold G14
      simp only [openHd_v, openInt_v, splitB_dec]
      rw [if_neg (by omega)])
    L.length 0 rfl [.v (.int .i64 0)] S 1000000 ⟨rfl, by simpa using h⟩ (by omega)
  rw [List.take_length] at h2
  exact ⟨S', h1, h2⟩

def allA (l : List Stmt) : List Atom := l.flatMap fun s => s.e.l ++ s.l
theorem allA_len : ∀ (l : List Stmt), (∀ s ∈ l, s.l.length ≤ 190000 ∧ s.e.l.length ≤ 190000) → (allA l).length ≤ l.length * 380000
  | [], _ => by simp [allA]
  | s :: r, h => by
    have h1 := allA_len r fun s hs => h s (by simp [hs])
    have h2 := h s (by simp)
    have e : allA (s :: r) = (s.e.l ++ s.l) ++ allA r := rfl
    rw [e, List.length_append, List.length_append, List.length_cons]; omega
theorem allA_snoc (l : List Stmt) (s : Stmt) : allA (l ++ [s]) = allA l ++ (s.e.l ++ s.l) := by simp [allA]

/-- The uses in a block are counted. -/
theorem loopA (b : Block) (hn : b.l.length ≤ 2000) (hB : ∀ s ∈ b.l, s.l.length ≤ 190000 ∧ s.e.l.length ≤ 190000) {tm sp : SV} {j : Int} {cb lo : Nat} {S : St} (h : CI tm sp j cb lo [] [] [] S) :
    ∃ S', iter (F14a 1000000 cb b.t31 (b.l.length : Int)) 1000000 [.v (.int .i64 (0 : Int))] S = some (.exit 0, [.v (.int .i64 (b.l.length : Int))], S') ∧ CI tm sp j cb lo [] [] (allA b.l) S' := by
  obtain ⟨ba, hba, ba0, ba1⟩ := bytes14a
  obtain ⟨za, hza, zal⟩ := zero14a
  obtain ⟨vs, S', h1, rfl, h2⟩ := iter_inv 0 (F := F14a 1000000 cb b.t31 (b.l.length : Int)) b.l.length
    (fun i vs S' => vs = [.v (.int .i64 (i : Int))] ∧ CI tm sp j cb lo [] [] (allA (b.l.take i)) S')
    (fun i hi vs S' hI => by
      obtain ⟨rfl, h⟩ := hI
      have hlt : ((i : Nat) : Int) < ((b.l.length : Nat) : Int) := by omega
      have hfl : S'.floor ≤ S'.next := by rw [h.bs.fl]; omega
      have hb := hB b.l[i] (List.getElem_mem hi)
      have hal := allA_len (b.l.take i) fun s hs => hB s (List.mem_of_mem_take hs)
      rw [List.length_take, Nat.min_eq_left (by omega)] at hal
      rw [List.take_succ_eq_append_getElem hi, allA_snoc]
      unfold F14a
      simp only [openHd_v, openInt_v, splitB_dec]
      rw [if_pos hlt, show b.t31.l = stmts b.l from rfl, index_stmts (P_kt 14) .i64 b.l i hi]
      generalize b.l[i] = s at hb
      simp only [Option.bind_some, openCp57']
      rw [store_box (sz57 (P_kt 14)) (by decide) hfl rfl rfl]
      generalize hz : (SObj.cells [(.v (.int .i64 (0 : Int))), (.v (.int .i64 (0 : Int))), (.v (.int .i64 (0 : Int))), (.v (.int .i64 (0 : Int))), (.v (.int .i64 (0 : Int))), (.v (.int .u32 (0 : Int))), (.v (.int .u32 (0 : Int))), (.v (.int .i64 (0 : Int))), (.v (.int .i64 (0 : Int))), (.v (.int .i64 (0 : Int))), (.v (.int .i64 (0 : Int))), (.v (.slice none 0 0)), (.v (.slice none 0 0))]) = zz
      have h1 := h.box zz (.cells s.t57.enc)
      have gx := boxed_self S' zz (.cells s.t57.enc)
      have nx : (boxed S' zz (.cells s.t57.enc)).next = S'.next + 1 := rfl
      generalize boxed S' zz (.cells s.t57.enc) = T1 at h1 gx nx
      have f1 := h1.bs.fl
      rw [if_pos (by omega)]
      have l11 : loadE (kt.at 14) 53 (.ptr S'.next 11) T1 = some (atoms s.e.l) := by rw [ld1 (ag53 (P_kt 14)) (sz53 (P_kt 14)) gx]; rfl
      rw [l11, Option.bind_some]
      obtain ⟨y1, T2, c1, o1, f2, n2, k2, b2⟩ := clone_spec (f := ac) (sz := 6) (by_ := 32) ac_len s.e.l (by simp only [room]; omega) T1 (by omega)
      have c1' : run kt (.func 57 [] []) [atoms s.e.l] T1 = some (y1, T2) := run_prim (k := kt) (f := 57) (p := clone 6 32) rfl c1
      rw [c1', Option.bind_some, if_pos (by omega)]
      have l12 : loadE (kt.at 14) 53 (.ptr S'.next 12) T2 = some (atoms s.l) := by rw [ld1 (ag53 (P_kt 14)) (sz53 (P_kt 14)) (by rw [k2 _ (by omega)]; exact gx)]; rfl
      rw [l12, Option.bind_some]
      have h2 : CI tm sp j cb lo [] [] (allA (b.l.take i)) T2 := h1.frame f2 n2 fun c hc _ => k2 c hc
      obtain ⟨y2, T3, a1, o2, f3, n3⟩ := own_append ac_len (elem_of (P_kt 14) Tryz.underlying53) (size28k (P_kt 14)) hba hza (by decide) ba0 zal (by decide) o1 s.l (room1 _ _ (by omega) ba1)
      rw [show appendE (kt.at 14) 53 y1 (atoms s.l) T2 = some (y2, T3) from a1, Option.bind_some]
      have h3 : CI tm sp j cb lo [] [] (allA (b.l.take i)) T3 := h2.frame f3 n3 fun c hc hne => append_keep a1 c hc (fun b' n' cs' e => by
          rcases o1.2 with ⟨_, rfl⟩ | ⟨b'', e'', g'', _⟩
          · cases e
          · rw [e''] at e
            cases e
            rintro rfl
            exact hne _ g'') (fun b' n' e => by
          rcases o1.2 with ⟨_, rfl⟩ | ⟨b'', e'', g'', _⟩
          · cases e
          · rw [e''] at e; cases e)
      have hle : (s.e.l ++ s.l).length ≤ 400000 := by rw [List.length_append]; omega
      rw [own_len (P_kt 14) Tryz.underlying53 o2, Option.bind_some, openInt_v]
      obtain ⟨T4, e4, h4⟩ := loopG (s.e.l ++ s.l) hle o2 h3 (by omega)
      rw [e4]
      simp only [Option.bind_some, openHd_v, openInt_v, exits_exit, if_true]
      rw [wrap_in (by omega) (by omega)]
      exact ⟨_, _, rfl, rfl, h4⟩)
    (fun vs S' hI => by
      obtain ⟨rfl, _⟩ := hI
      unfold F14a
      simp only [openHd_v, openInt_v, splitB_dec]
      rw [if_neg (by omega)])
    b.l.length 0 rfl [.v (.int .i64 0)] S 1000000 ⟨rfl, by simpa [allA] using h⟩ (by omega)
  rw [List.take_length] at h2
  exact ⟨S', h1, h2⟩
end Go.Sv
end
section
namespace Go.Sv
open Go Go.Proofs Go.Proofs.YtkflapebfmcmaaaGreat
set_option linter.all false
set_option maxRecDepth 100000

def stP (b : Block) (l : List Stmt) : List TStmt × Wt := l.foldl (stepB (fun x t => anyN (distT b.tmps x) t) madeP (usesM b)) ([], [])
def buildP (b : Block) : TBlock × Int :=
  if errB b ≠ 0 then (zTB, 7) else (⟨b.tmps, (stP b b.l).1, (takeP b.next (stP b b.l).2).1, b.jump, b.spans⟩, 0)
theorem stP_snoc (b : Block) (l : List Stmt) (s : Stmt) : stP b (l ++ [s]) = stepB (fun x t => anyN (distT b.tmps x) t) madeP (usesM b) (stP b l) s := by simp [stP, List.foldl_append]

theorem cntA_allA (t : Int) : ∀ l : List Stmt, cntA (allA l) t = (l.map fun s => cntA (s.e.l ++ s.l) t).sum
  | [] => rfl
  | s :: r => by
    have e : allA (s :: r) = (s.e.l ++ s.l) ++ allA r := rfl
    rw [e, cntA_append, cntA_allA t r]; rfl
theorem uses_cnt (b : Block) (t : Int) : ((cntA (allA b.l ++ [b.next]) t : Nat) : Int) = usesM b t := by
  rw [cntA_snoc, cntA_allA]
  unfold usesM
  by_cases h : t = b.next.tmp
  · rw [if_pos h, if_pos h.symm]; simp [sum_cast]
  · rw [if_neg h, if_neg (Ne.symm h)]; simp [sum_cast]

theorem leaf_TG {a : Atom} (h : a.ok) : TG (leafT a) := by
  unfold leafT; rw [TG]; exact ⟨by simp, h, by rw [TGl]; trivial⟩
theorem zA_ok : zA.ok := by unfold Atom.ok zA; decide
theorem takeP_TG {a : Atom} (h : a.ok) : ∀ {w : Wt}, (∀ p ∈ w, TG p.2) → TG (takeP a w).1 ∧ ∀ p ∈ (takeP a w).2, TG p.2
  | [], hw => ⟨leaf_TG h, hw⟩
  | p :: r, hw => by
    have ih := takeP_TG h (w := r) fun q hq => hw q (by simp [hq])
    rw [takeP]
    split
    · exact ⟨hw p (by simp), fun q hq => hw q (by simp [hq])⟩
    · refine ⟨ih.1, fun q hq => ?_⟩
      rcases List.mem_cons.1 hq with rfl | hq
      · exact hw _ (by simp)
      · exact ih.2 q hq
theorem takesP_TG : ∀ {l : List Atom} {w : Wt}, (∀ a ∈ l, a.ok) → (∀ p ∈ w, TG p.2) → (∀ t ∈ (takesP l w).1, TG t) ∧ ∀ p ∈ (takesP l w).2, TG p.2
  | [], w, _, hw => ⟨fun t ht => by simp [takesP] at ht, hw⟩
  | a :: r, w, h, hw => by
    have h1 := takeP_TG (h a (by simp)) hw
    have h2 := takesP_TG (l := r) (fun x hx => h x (by simp [hx])) h1.2
    refine ⟨fun t ht => ?_, h2.2⟩
    simp only [takesP] at ht
    rcases List.mem_cons.1 ht with rfl | ht
    · exact h1.1
    · exact h2.1 t ht
theorem madeP_TG {s : Stmt} (h1 : s.l.length ≤ 900000) (h2 : s.e.l.length ≤ 900000) (a1 : ∀ a ∈ s.l, a.ok) (a2 : ∀ a ∈ s.e.l, a.ok) {w : Wt} (hw : ∀ p ∈ w, TG p.2) :
    TG (madeP s w).1.e ∧ (∀ t ∈ (madeP s w).1.l, TG t) ∧ (madeP s w).1.l.length = s.l.length ∧ (∀ p ∈ (madeP s w).2, TG p.2) ∧ (madeP s w).2.length ≤ w.length ∧ (madeP s w).1.kind = s.kind ∧ (s.kind = 2 → (madeP s w).1.e.kind = s.e.kind) := by
  unfold madeP
  split
  · have e1 := takesP_TG a2 hw
    have e2 := takesP_TG a1 e1.2
    have n1 := takesP_len s.e.l w
    have n2 := takesP_len s.l (takesP s.e.l w).2
    refine ⟨?_, e2.1, n2.1, e2.2, by have := n2.2; have := n1.2; simp only; omega, rfl, fun _ => rfl⟩
    simp only [nodeT]
    rw [TG]
    exact ⟨by rw [n1.1]; omega, zA_ok, TGl_of e1.1⟩
  · have e2 := takesP_TG a1 hw
    have n2 := takesP_len s.l w
    exact ⟨leaf_TG zA_ok, e2.1, n2.1, e2.2, n2.2, rfl, fun h => (‹¬ _› h).elim⟩

theorem filt_split (w : Wt) (q : Int × Tree → Bool) : (w.filter q).length + (w.filter fun p => !q p).length = w.length := by
  induction w with
  | nil => rfl
  | cons p r ihr => cases hq : q p <;> simp [List.filter_cons, hq] <;> omega
theorem stP_bnd (b : Block) (hB : bndB b) : ∀ i, i ≤ b.l.length → (stP b (b.l.take i)).1.length + (stP b (b.l.take i)).2.length ≤ i ∧ ∀ p ∈ (stP b (b.l.take i)).2, TG p.2 := by
  intro i
  induction i with
  | zero => intro _; rw [List.take_zero]; exact ⟨Nat.le_refl 0, fun p hp => by simp [stP] at hp⟩
  | succ i ih =>
    intro hi
    obtain ⟨h1, h2⟩ := ih (by omega)
    obtain ⟨⟨hb1, hb2⟩, hb3, hb4⟩ := hB b.l[i] (List.getElem_mem (by omega))
    rw [List.take_succ_eq_append_getElem (by omega), stP_snoc]
    generalize stP b (b.l.take i) = c at h1 h2
    generalize b.l[i] = s at hb1 hb2 hb3 hb4
    obtain ⟨g1, _, _, g2, g3, _⟩ := madeP_TG (by omega) (by omega) hb3 hb4 h2
    have hs := filt_split (madeP s c.2).2 fun p => anyN (distT b.tmps (madeP s c.2).1) p.2
    unfold stepB
    simp only
    by_cases hc : s.kind = 2 ∧ usesM b s.tmp = 1 ∧ s.e.kind ≠ 1
    · rw [if_pos hc]
      refine ⟨by simp only [List.length_append, List.length_map, List.length_singleton]; omega, fun p hp => ?_⟩
      rcases List.mem_append.1 hp with hp | hp
      · exact g2 p (List.mem_filter.1 hp).1
      · simp only [List.mem_singleton] at hp; subst hp; exact g1
    · rw [if_neg hc]
      refine ⟨by simp only [List.length_append, List.length_map, List.length_singleton]; omega, fun p hp => ?_⟩
      exact g2 p (List.mem_filter.1 hp).1

theorem gate_ex {g : Option (List SV)} {c : Bool} {K : List SV → Option (Ex × List SV × St)} {vs : List SV} {P : St → Prop} (h1 : g = some [.v (.bool c)]) (h2 : ∃ T, K [.v (.bool c)] = some (.normal, vs, T) ∧ P T) : ∃ T, g.bind K = some (.normal, vs, T) ∧ P T := by
  rw [h1]; exact h2

theorem bytes14s : ∃ n, bytes? (kt.at 14) 59 = some n ∧ n ≠ 0 ∧ n ≤ 1000 := bytesU (by kernel_rfl)
theorem bytes14w : ∃ n, bytes? (kt.at 14) 98 = some n ∧ n ≠ 0 ∧ n ≤ 1000 := bytesU (by kernel_rfl)
theorem zero14s : ∃ z, zero? (kt.at 14) 59 = some z ∧ z.length = 19 := zlenU (by kernel_rfl)
theorem zero14w : ∃ z, zero? (kt.at 14) 98 = some z ∧ z.length = 12 := zlenU (by kernel_rfl)
theorem inbox14 : (kt.at 14).inBox 98 = 1 := by kernel_rfl
theorem im14 : intMap? (kt.at 14) 89 = some 3 := by kernel_rfl
theorem z14 : zflat? (kt.at 14) 3 = some (.int .i64 0) := by kernel_rfl
theorem fa14_0 (b : Nat) : fieldAddrE (kt.at 14) 92 (.ptr b 0) 0 = some (.ptr b 0) := by kernel_rfl
theorem fa14_1 (b : Nat) : fieldAddrE (kt.at 14) 92 (.ptr b 0) 1 = some (.ptr b 15) := by kernel_rfl
theorem fa14_2 (b : Nat) : fieldAddrE (kt.at 14) 92 (.ptr b 0) 2 = some (.ptr b 16) := by kernel_rfl
theorem fa39_1 (b : Nat) : fieldAddrE (kt.at 14) 39 (.ptr b 0) 1 = some (.ptr b 1) := by kernel_rfl
theorem fa39_2 (b : Nat) : fieldAddrE (kt.at 14) 39 (.ptr b 0) 2 = some (.ptr b 2) := by kernel_rfl
theorem asked_ptr {k : K} {cb : Nat} {S S' : St} (hP : k.P = Tryz.prog) (h1 : S.get cb = .cells [.ptr 3 0]) (h2 : S'.get cb = .cells [.ptr 3 0]) : asked k [(87, .ptr cb 0)] S S' = true := by
  have l : ∀ T : St, T.get cb = .cells [.ptr 3 0] → loadE k 87 (.ptr cb 0) T = some (.ptr 3 0) := fun T h => by rw [ld1 (ag87 hP) (sz87 hP) h]; rfl
  simp [asked, kept, l S h1, l S' h2, eqO, eqSV]
end Go.Sv
end
