/- Parts of the proofs of this seat's laws. -/
import Derived.Test.YtkflapebfmcmaaaGreatBOnce45
section
namespace Go.Sv
open Go Go.Proofs
set_option linter.all false
set_option maxRecDepth 1000000
set_option maxHeartbeats 0
def h55 : H := { hh with live := fun b => match b with  | _ => [], keep := fun b => match b with  | _ => none }
theorem tell55 (N : Nat) (u0 : T31) (S : St) : cBody (kt.at 55) h55 (run kt) N (compF Tryz.f55) [.agg u0.enc] S = (if (St.next S) < (St.next (St.alloc (St.alloc (St.alloc S (.cells u0.enc)) (.map [])) (.cells [(.v (.slice none 0 0)), (.v (.slice none 0 0)), (.v (.int .i64 (0 : Int))), (.v (.int .i64 (0 : Int))), (.v (.int .u32 (0 : Int))), (.v (.int .u32 (0 : Int))), (.v (.int .u32 (0 : Int))), (.v (.int .u32 (0 : Int))), (.v (.int .i64 (0 : Int))), (.v (.int .i64 (0 : Int))), (.v (.int .i64 (0 : Int))), (.v (.int .i64 (0 : Int))), (.v (.slice none 0 0)), (.v (.int .i64 (0 : Int))), (.v (.slice none 0 0)), (.map (St.next (St.alloc S (.cells u0.enc)))), (.v (.slice none 0 0))]))) then (loadE (kt.at 55) 22 (.ptr (St.next S) 0) (St.alloc (St.alloc (St.alloc S (.cells u0.enc)) (.map [])) (.cells [(.v (.slice none 0 0)), (.v (.slice none 0 0)), (.v (.int .i64 (0 : Int))), (.v (.int .i64 (0 : Int))), (.v (.int .u32 (0 : Int))), (.v (.int .u32 (0 : Int))), (.v (.int .u32 (0 : Int))), (.v (.int .u32 (0 : Int))), (.v (.int .i64 (0 : Int))), (.v (.int .i64 (0 : Int))), (.v (.int .i64 (0 : Int))), (.v (.int .i64 (0 : Int))), (.v (.slice none 0 0)), (.v (.int .i64 (0 : Int))), (.v (.slice none 0 0)), (.map (St.next (St.alloc S (.cells u0.enc)))), (.v (.slice none 0 0))]))).bind fun r0 => (run kt (.func 69 [] []) [r0] (St.alloc (St.alloc (St.alloc S (.cells u0.enc)) (.map [])) (.cells [(.v (.slice none 0 0)), (.v (.slice none 0 0)), (.v (.int .i64 (0 : Int))), (.v (.int .i64 (0 : Int))), (.v (.int .u32 (0 : Int))), (.v (.int .u32 (0 : Int))), (.v (.int .u32 (0 : Int))), (.v (.int .u32 (0 : Int))), (.v (.int .i64 (0 : Int))), (.v (.int .i64 (0 : Int))), (.v (.int .i64 (0 : Int))), (.v (.int .i64 (0 : Int))), (.v (.slice none 0 0)), (.v (.int .i64 (0 : Int))), (.v (.slice none 0 0)), (.map (St.next (St.alloc S (.cells u0.enc)))), (.v (.slice none 0 0))]))).bind fun p1 => (if (St.next S) < (St.next (St.alloc (St.alloc (St.alloc S (.cells u0.enc)) (.map [])) (.cells [(.v (.slice none 0 0)), (.v (.slice none 0 0)), (.v (.int .i64 (0 : Int))), (.v (.int .i64 (0 : Int))), (.v (.int .u32 (0 : Int))), (.v (.int .u32 (0 : Int))), (.v (.int .u32 (0 : Int))), (.v (.int .u32 (0 : Int))), (.v (.int .i64 (0 : Int))), (.v (.int .i64 (0 : Int))), (.v (.int .i64 (0 : Int))), (.v (.int .i64 (0 : Int))), (.v (.slice none 0 0)), (.v (.int .i64 (0 : Int))), (.v (.slice none 0 0)), (.map (St.next (St.alloc S (.cells u0.enc)))), (.v (.slice none 0 0))]))) then (loadE (kt.at 55) 29 (.ptr (St.next S) 9) p1.2).bind fun r2 => (run kt (.func 70 [] []) [r2] p1.2).bind fun p3 => (if (St.next S) < (St.next (St.alloc (St.alloc (St.alloc S (.cells u0.enc)) (.map [])) (.cells [(.v (.slice none 0 0)), (.v (.slice none 0 0)), (.v (.int .i64 (0 : Int))), (.v (.int .i64 (0 : Int))), (.v (.int .u32 (0 : Int))), (.v (.int .u32 (0 : Int))), (.v (.int .u32 (0 : Int))), (.v (.int .u32 (0 : Int))), (.v (.int .i64 (0 : Int))), (.v (.int .i64 (0 : Int))), (.v (.int .i64 (0 : Int))), (.v (.int .i64 (0 : Int))), (.v (.slice none 0 0)), (.v (.int .i64 (0 : Int))), (.v (.slice none 0 0)), (.map (St.next (St.alloc S (.cells u0.enc)))), (.v (.slice none 0 0))]))) then (loadE (kt.at 55) 3 (.ptr (St.next S) 8) p3.2).bind fun r4 => openInt r4 fun a5 => storeK (kt.at 55) 22 (.ptr (St.next (St.alloc (St.alloc S (.cells u0.enc)) (.map []))) 0) p1.1 p3.2 fun S6 => (if (St.next (St.alloc (St.alloc (St.alloc S (.cells u0.enc)) (.map [])) (.cells [(.v (.slice none 0 0)), (.v (.slice none 0 0)), (.v (.int .i64 (0 : Int))), (.v (.int .i64 (0 : Int))), (.v (.int .u32 (0 : Int))), (.v (.int .u32 (0 : Int))), (.v (.int .u32 (0 : Int))), (.v (.int .u32 (0 : Int))), (.v (.int .i64 (0 : Int))), (.v (.int .i64 (0 : Int))), (.v (.int .i64 (0 : Int))), (.v (.int .i64 (0 : Int))), (.v (.slice none 0 0)), (.v (.int .i64 (0 : Int))), (.v (.slice none 0 0)), (.map (St.next (St.alloc S (.cells u0.enc)))), (.v (.slice none 0 0))]))) ≤ (St.next S6) then (if asked (kt.at 55) [(3, (.ptr (St.next S) 8))] p3.2 S6 = true then storeK (kt.at 55) 29 (.ptr (St.next (St.alloc (St.alloc S (.cells u0.enc)) (.map []))) 14) p3.1 S6 fun S7 => (if (St.next (St.alloc (St.alloc (St.alloc S (.cells u0.enc)) (.map [])) (.cells [(.v (.slice none 0 0)), (.v (.slice none 0 0)), (.v (.int .i64 (0 : Int))), (.v (.int .i64 (0 : Int))), (.v (.int .u32 (0 : Int))), (.v (.int .u32 (0 : Int))), (.v (.int .u32 (0 : Int))), (.v (.int .u32 (0 : Int))), (.v (.int .i64 (0 : Int))), (.v (.int .i64 (0 : Int))), (.v (.int .i64 (0 : Int))), (.v (.int .i64 (0 : Int))), (.v (.slice none 0 0)), (.v (.int .i64 (0 : Int))), (.v (.slice none 0 0)), (.map (St.next (St.alloc S (.cells u0.enc)))), (.v (.slice none 0 0))]))) ≤ (St.next S7) then (if asked (kt.at 55) [(3, (.ptr (St.next S) 8))] S6 S7 = true then storeK (kt.at 55) 3 (.ptr (St.next (St.alloc (St.alloc S (.cells u0.enc)) (.map []))) 13) (.v (.int .i64 a5)) S7 fun S8 => (if (St.next (St.alloc (St.alloc (St.alloc S (.cells u0.enc)) (.map [])) (.cells [(.v (.slice none 0 0)), (.v (.slice none 0 0)), (.v (.int .i64 (0 : Int))), (.v (.int .i64 (0 : Int))), (.v (.int .u32 (0 : Int))), (.v (.int .u32 (0 : Int))), (.v (.int .u32 (0 : Int))), (.v (.int .u32 (0 : Int))), (.v (.int .i64 (0 : Int))), (.v (.int .i64 (0 : Int))), (.v (.int .i64 (0 : Int))), (.v (.int .i64 (0 : Int))), (.v (.slice none 0 0)), (.v (.int .i64 (0 : Int))), (.v (.slice none 0 0)), (.map (St.next (St.alloc S (.cells u0.enc)))), (.v (.slice none 0 0))]))) ≤ (St.next S8) then (some ((.ptr (St.next (St.alloc (St.alloc S (.cells u0.enc)) (.map []))) 0), S8)) else none) else none) else none) else none) else none) else none) else none) else none) := by kernel_rfl
theorem fn55 : fnsK 55 = some (compF Tryz.f55) := by kernel_rfl
def h56 : H := { hh with live := fun b => match b with  | _ => [], keep := fun b => match b with  | _ => none }
theorem tell56 (N : Nat) (u0 : T28) (c : Nat) (S : St) : cBody (kt.at 56) h56 (run kt) N (compF Tryz.f56) [.agg u0.enc, .ptr c 0] S = (if c < (St.next S) then (loadE (kt.at 56) 87 (.ptr c 0) S).bind fun r0 => (nilE r0).bind fun r1 => (fieldAddrE (kt.at 56) 92 r1 1).bind fun r2 => loadK (kt.at 56) (St.next S) 89 r2 S fun r3 => (lookupE (kt.at 56) 89 r3 (.v (.int .i64 u0.tmp)) false S).bind fun r4 => (binE (kt.at 56) .add 3 r4 (.v (.int .i64 (1 : Int)))).bind fun r5 => (mapUpdateE (kt.at 56) 89 r3 (.v (.int .i64 u0.tmp)) r5 S).bind fun S6 => (if (St.next S) ≤ (St.next S6) then (some ((.tuple []), S6)) else none) else none) := by kernel_rfl
theorem fn56 : fnsK 56 = some (compF Tryz.f56) := by kernel_rfl
def h14 : H := { hh with live := fun b => match b with | 0 => [(23, 1)] | 2 => [(35, 1)] | 4 => [(51, 1)] | _ => [], keep := fun b => match b with | 62 => some [(80, 2)] | _ => none }
theorem tell14 (N : Nat) (u0 : T31) : cBody (kt.at 14) h14 (run kt) N (compF Tryz.f14) [.agg u0.enc] St0 = (run kt (.func 54 [] []) [(.agg u0.enc)] (St.alloc St0 (.cells [(.v (.slice none 0 0)), (.v (.slice none 0 0)), (.v (.int .i64 (0 : Int))), (.v (.int .i64 (0 : Int))), (.v (.int .u32 (0 : Int))), (.v (.int .u32 (0 : Int))), (.v (.int .u32 (0 : Int))), (.v (.int .u32 (0 : Int))), (.v (.int .i64 (0 : Int))), (.v (.int .i64 (0 : Int))), (.v (.int .i64 (0 : Int))), (.v (.int .i64 (0 : Int))), (.v (.slice none 0 0)), (.v (.int .i64 (0 : Int))), (.v (.slice none 0 0))]))).bind fun p0 => openInt p0.1 fun a1 => (splitB (.v (.bool (a1 != (0 : Int))))
 (storeK (kt.at 14) 39 (.ptr 0 0) (.agg [(.v (.slice none 0 0)), (.v (.slice none 0 0)), (.v (.int .i64 (0 : Int))), (.v (.int .i64 (0 : Int))), (.v (.int .u32 (0 : Int))), (.v (.int .u32 (0 : Int))), (.v (.int .u32 (0 : Int))), (.v (.int .u32 (0 : Int))), (.v (.int .i64 (0 : Int))), (.v (.int .i64 (0 : Int))), (.v (.int .i64 (0 : Int))), (.v (.int .i64 (0 : Int))), (.v (.slice none 0 0)), (.v (.int .i64 (0 : Int))), (.v (.slice none 0 0))]) p0.2 fun S2 => (loadE (kt.at 14) 39 (.ptr 0 0) S2).bind fun r3 => (some ((.tuple [r3, (.v (.int .i64 (7 : Int)))]), S2)))
 ((run kt (.func 55 [] []) [(.agg u0.enc)] p0.2).bind fun p4 => storeK (kt.at 14) 87 (.ptr (St.next p4.2) 0) p4.1 (St.alloc p4.2 (.cells [(.v (.pointer none))])) fun S5 => (lenE (kt.at 14) 23 u0.l).bind fun r6 => openInt r6 fun a7 => (iter (fun vs8 S9 => openHd vs8 fun y10 r11 => openInt y10 fun a12 => (splitB (.v (.bool (decide (a12 < a7))))
 ((indexAddrE (kt.at 14) 23 u0.l (.v (.int .i64 a12))).bind fun r13 => openCp cd57 r13 fun t14 => storeK (kt.at 14) 57 (.ptr (St.next S9) 0) (.agg t14.enc) (St.alloc S9 (.cells [(.v (.int .i64 (0 : Int))), (.v (.int .i64 (0 : Int))), (.v (.int .i64 (0 : Int))), (.v (.int .i64 (0 : Int))), (.v (.int .i64 (0 : Int))), (.v (.int .u32 (0 : Int))), (.v (.int .u32 (0 : Int))), (.v (.int .i64 (0 : Int))), (.v (.int .i64 (0 : Int))), (.v (.int .i64 (0 : Int))), (.v (.int .i64 (0 : Int))), (.v (.slice none 0 0)), (.v (.slice none 0 0))])) fun S15 => (if (St.next S9) < (St.next S15) then (loadE (kt.at 14) 53 (.ptr (St.next S9) 11) S15).bind fun r16 => (run kt (.func 57 [] []) [r16] S15).bind fun p17 => (if (St.next S9) < (St.next S15) then (loadE (kt.at 14) 53 (.ptr (St.next S9) 12) p17.2).bind fun r18 => (appendE (kt.at 14) 53 p17.1 r18 p17.2).bind fun p19 => (lenE (kt.at 14) 53 p19.1).bind fun r20 => openInt r20 fun a21 => (iter (fun vs22 S23 => openHd vs22 fun y24 r25 => openInt y24 fun a26 => (splitB (.v (.bool (decide (a26 < a21))))
 ((indexAddrE (kt.at 14) 53 p19.1 (.v (.int .i64 a26))).bind fun r27 => openCp cd28 r27 fun t28 => storeK (kt.at 14) 28 (.ptr (St.next S23) 0) (.agg t28.enc) (St.alloc S23 (.cells [(.v (.int .i64 (0 : Int))), (.v (.int .i64 (0 : Int))), (.v (.int .u32 (0 : Int))), (.v (.int .u32 (0 : Int))), (.v (.int .u32 (0 : Int))), (.v (.int .u32 (0 : Int)))])) fun S29 => (loadE (kt.at 14) 28 (.ptr (St.next S23) 0) S29).bind fun r30 => openAgg cd28 r30 fun t31 => (run kt (.func 56 [] [(.ptr (St.next p4.2) 0)]) [(.agg t31.enc)] S29).bind fun p32 => (some (.normal, ([(.v (.int .i64 (IntKind.wrap .i64 (a26 + (1 : Int)))))], p32.2))))
 ((some ((.exit 2), ([(.v (.int .i64 a26))], S23)))))) N [(.v (.int .i64 (0 : Int)))] p19.2).bind fun q33 => openHd q33.2.1 fun y34 r35 => openInt y34 fun a36 => (exits q33.1 (fun i37 => (if i37 = 2 then (some (.normal, ([(.v (.int .i64 (IntKind.wrap .i64 (a12 + (1 : Int)))))], q33.2.2))) else (if i37 = 1 then (some (.normal, ([(.v (.int .i64 (IntKind.wrap .i64 (a12 + (1 : Int)))))], q33.2.2))) else (some ((.exit i37), ([(.v (.int .i64 a12))], q33.2.2)))))) ((some (.ret, ([(.v (.int .i64 a12))], q33.2.2))))) else none) else none))
 ((some ((.exit 0), ([(.v (.int .i64 a12))], S9)))))) N [(.v (.int .i64 (0 : Int)))] S5).bind fun q38 => openHd q38.2.1 fun y39 r40 => openInt y39 fun a41 => (exits q38.1 (fun i42 => (if i42 = 0 then (run kt (.func 56 [] [(.ptr (St.next p4.2) 0)]) [(.agg [(.v (.int .i64 u0.next_Tmp)), (.v (.int .i64 u0.next_Ty)), (.v (.int .u32 u0.next_C0)), (.v (.int .u32 u0.next_C1)), (.v (.int .u32 u0.next_C2)), (.v (.int .u32 u0.next_C3))])] q38.2.2).bind fun p43 => (lenE (kt.at 14) 23 u0.l).bind fun r44 => openInt r44 fun a45 => (iter (fun vs46 S47 => openHd vs46 fun y48 r49 => openInt y48 fun a50 => (splitB (.v (.bool (decide (a50 < a45))))
 ((indexAddrE (kt.at 14) 23 u0.l (.v (.int .i64 a50))).bind fun r51 => openCp cd57 r51 fun t52 => storeK (kt.at 14) 57 (.ptr (St.next S47) 0) (.agg t52.enc) (St.alloc S47 (.cells [(.v (.int .i64 (0 : Int))), (.v (.int .i64 (0 : Int))), (.v (.int .i64 (0 : Int))), (.v (.int .i64 (0 : Int))), (.v (.int .i64 (0 : Int))), (.v (.int .u32 (0 : Int))), (.v (.int .u32 (0 : Int))), (.v (.int .i64 (0 : Int))), (.v (.int .i64 (0 : Int))), (.v (.int .i64 (0 : Int))), (.v (.int .i64 (0 : Int))), (.v (.slice none 0 0)), (.v (.slice none 0 0))])) fun S53 => (loadE (kt.at 14) 57 (.ptr (St.next S47) 0) S53).bind fun r54 => openAgg cd57 r54 fun t55 => (loadE (kt.at 14) 87 (.ptr (St.next p4.2) 0) S53).bind fun r56 => (run kt (.func 58 [] []) [(.agg t55.enc), (.func 59 [r56] [])] S53).bind fun p57 => openAgg cd59 p57.1 fun t58 => storeK (kt.at 14) 59 (.ptr (St.next p57.2) 0) (.agg t58.enc) (St.alloc p57.2 (.cells [(.v (.int .i64 (0 : Int))), (.v (.int .i64 (0 : Int))), (.v (.int .i64 (0 : Int))), (.v (.int .i64 (0 : Int))), (.v (.int .i64 (0 : Int))), (.v (.int .u32 (0 : Int))), (.v (.int .u32 (0 : Int))), (.v (.int .i64 (0 : Int))), (.v (.int .i64 (0 : Int))), (.v (.int .u32 (0 : Int))), (.v (.int .u32 (0 : Int))), (.v (.int .u32 (0 : Int))), (.v (.int .u32 (0 : Int))), (.v (.int .i64 (0 : Int))), (.v (.int .i64 (0 : Int))), (.v (.int .i64 (0 : Int))), (.v (.int .i64 (0 : Int))), (.v (.slice none 0 0)), (.v (.slice none 0 0))])) fun S59 => (loadE (kt.at 14) 87 (.ptr (St.next p4.2) 0) S59).bind fun r60 => (loadE (kt.at 14) 59 (.ptr (St.next p57.2) 0) S59).bind fun r61 => openAgg cd59 r61 fun t62 => (run kt (.func 60 [] []) [r60, (.agg t62.enc)] S59).bind fun p63 => ((if (St.next S47) < (St.next p63.2) then (loadE (kt.at 14) 3 (.ptr (St.next S47) 0) p63.2).bind fun r64 => openInt r64 fun a65 => (splitB (.v (.bool (a65 == (2 : Int))))
 ((if (St.next p4.2) < (St.next p63.2) then (loadE (kt.at 14) 87 (.ptr (St.next p4.2) 0) p63.2).bind fun r66 => (nilE r66).bind fun r67 => (fieldAddrE (kt.at 14) 92 r67 1).bind fun r68 => loadK (kt.at 14) (St.next p63.2) 89 r68 p63.2 fun r69 => (if (St.next S47) < (St.next p63.2) then (loadE (kt.at 14) 3 (.ptr (St.next S47) 1) p63.2).bind fun r70 => openInt r70 fun a71 => (lookupE (kt.at 14) 89 r69 (.v (.int .i64 a71)) false p63.2).bind fun r72 => (binE (kt.at 14) .eql 3 r72 (.v (.int .i64 (1 : Int)))).bind fun r73 => (splitG r73
 ((if (St.next S47) < (St.next p63.2) then (loadE (kt.at 14) 3 (.ptr (St.next S47) 7) p63.2).bind fun r74 => openInt r74 fun a75 => (some [(.v (.bool (a75 != (1 : Int))))]) else none))
 ((some [(.v (.bool false))]))
 ((splitG r73
 (none)
 ((some [(.v (.bool false))]))
 ((splitG r73
 (none)
 ((some [(.v (.bool false))]))
 ((splitG r73
 (none)
 ((some [(.v (.bool false))]))
 ((splitB r73
 ((some [(.v undef)]))
 ((some [(.v (.bool false))]))))))))))) else none) else none))
 ((if (decide ((St.next p4.2) < (St.next p63.2))) = true then (some [(.v (.bool false))]) else none))) else none)).bind fun vs76 => openHd vs76 fun y77 r78 => openBool y77 fun b79 => (splitB (.v (.bool b79))
 ((if (St.next p4.2) < (St.next p63.2) then (loadE (kt.at 14) 87 (.ptr (St.next p4.2) 0) p63.2).bind fun r80 => (if (St.next p4.2) < (St.next p63.2) then (loadE (kt.at 14) 87 (.ptr (St.next p4.2) 0) p63.2).bind fun r81 => (nilE r81).bind fun r82 => (fieldAddrE (kt.at 14) 92 r82 2).bind fun r83 => loadK (kt.at 14) (St.next p63.2) 90 r83 p63.2 fun r84 => (if (St.next S47) < (St.next p63.2) then (loadE (kt.at 14) 3 (.ptr (St.next S47) 1) p63.2).bind fun r85 => openInt r85 fun a86 => (if (St.next p57.2) < (St.next p63.2) then (loadE (kt.at 14) 37 (.ptr (St.next p57.2) 7) p63.2).bind fun r87 => openAgg cd37 r87 fun t88 => (appendE (kt.at 14) 90 r84 (.arr (St.next p63.2) 1) (St.alloc p63.2 (.arr 12 [(.v (.int .i64 a86)), (.v (.int .i64 t88.a_Tmp)), (.v (.int .i64 t88.a_Ty)), (.v (.int .u32 t88.a_C0)), (.v (.int .u32 t88.a_C1)), (.v (.int .u32 t88.a_C2)), (.v (.int .u32 t88.a_C3)), (.v (.int .i64 t88.kind)), (.v (.int .i64 t88.ty)), (.v (.int .i64 t88.op)), (.v (.int .i64 t88.off)), t88.l]))).bind fun p89 => (if (St.next p63.2) ≤ (St.next p89.2) then (if asked (kt.at 14) [(87, (.ptr (St.next p4.2) 0))] (St.alloc p63.2 (.arr 12 [(.v (.int .i64 a86)), (.v (.int .i64 t88.a_Tmp)), (.v (.int .i64 t88.a_Ty)), (.v (.int .u32 t88.a_C0)), (.v (.int .u32 t88.a_C1)), (.v (.int .u32 t88.a_C2)), (.v (.int .u32 t88.a_C3)), (.v (.int .i64 t88.kind)), (.v (.int .i64 t88.ty)), (.v (.int .i64 t88.op)), (.v (.int .i64 t88.off)), t88.l])) p89.2 = true then (nilE r80).bind fun r90 => (fieldAddrE (kt.at 14) 92 r90 2).bind fun r91 => storeK (kt.at 14) 90 r91 p89.1 p89.2 fun S92 => (if (St.next p63.2) ≤ (St.next S92) then (some (.normal, ([(.v (.int .i64 (IntKind.wrap .i64 (a50 + (1 : Int)))))], S92))) else none) else none) else none) else none) else none) else none) else none))
 ((if (St.next p4.2) < (St.next p63.2) then (loadE (kt.at 14) 87 (.ptr (St.next p4.2) 0) p63.2).bind fun r93 => (if (St.next p4.2) < (St.next p63.2) then (loadE (kt.at 14) 87 (.ptr (St.next p4.2) 0) p63.2).bind fun r94 => (nilE r94).bind fun r95 => (fieldAddrE (kt.at 14) 92 r95 0).bind fun r96 => (fieldAddrE (kt.at 14) 39 r96 1).bind fun r97 => loadK (kt.at 14) (St.next p63.2) 34 r97 p63.2 fun r98 => (if (St.next p57.2) < (St.next p63.2) then (loadE (kt.at 14) 59 (.ptr (St.next p57.2) 0) p63.2).bind fun r99 => openAgg cd59 r99 fun t100 => (appendE (kt.at 14) 34 r98 (.sl (some (St.next p63.2)) 1 t100.enc) (St.alloc p63.2 (.own 19 19))).bind fun p101 => (nilE r93).bind fun r102 => (fieldAddrE (kt.at 14) 92 r102 0).bind fun r103 => (fieldAddrE (kt.at 14) 39 r103 1).bind fun r104 => storeK (kt.at 14) 34 r104 p101.1 p101.2 fun S105 => (if (St.next p63.2) ≤ (St.next S105) then (some (.normal, ([(.v (.int .i64 (IntKind.wrap .i64 (a50 + (1 : Int)))))], S105))) else none) else none) else none) else none))))
 ((some ((.exit 4), ([(.v (.int .i64 a50))], S47)))))) N [(.v (.int .i64 (0 : Int)))] p43.2).bind fun q106 => openHd q106.2.1 fun y107 r108 => openInt y107 fun a109 => (exits q106.1 (fun i110 => (if i110 = 4 then (if (St.next p4.2) < (St.next q106.2.2) then (loadE (kt.at 14) 87 (.ptr (St.next p4.2) 0) q106.2.2).bind fun r111 => (if (St.next p4.2) < (St.next q106.2.2) then (loadE (kt.at 14) 87 (.ptr (St.next p4.2) 0) q106.2.2).bind fun r112 => (run kt (.func 59 [] []) [r112, (.agg [(.v (.int .i64 u0.next_Tmp)), (.v (.int .i64 u0.next_Ty)), (.v (.int .u32 u0.next_C0)), (.v (.int .u32 u0.next_C1)), (.v (.int .u32 u0.next_C2)), (.v (.int .u32 u0.next_C3))])] q106.2.2).bind fun p113 => openAgg cd37 p113.1 fun t114 => (if (St.next q106.2.2) ≤ (St.next p113.2) then (if asked (kt.at 14) [(87, (.ptr (St.next p4.2) 0))] q106.2.2 p113.2 = true then (nilE r111).bind fun r115 => (fieldAddrE (kt.at 14) 92 r115 0).bind fun r116 => (fieldAddrE (kt.at 14) 39 r116 2).bind fun r117 => storeK (kt.at 14) 37 r117 (.agg t114.enc) p113.2 fun S118 => (if (St.next q106.2.2) ≤ (St.next S118) then (loadE (kt.at 14) 87 (.ptr (St.next p4.2) 0) S118).bind fun r119 => (nilE r119).bind fun r120 => (fieldAddrE (kt.at 14) 92 r120 0).bind fun r121 => (loadE (kt.at 14) 39 r121 S118).bind fun r122 => openAgg cd39 r122 fun t123 => storeK (kt.at 14) 39 (.ptr 0 0) (.agg t123.enc) S118 fun S124 => (loadE (kt.at 14) 39 (.ptr 0 0) S124).bind fun r125 => (some ((.tuple [r125, (.v (.int .i64 (0 : Int)))]), S124)) else none) else none) else none) else none) else none) else none)) ((loadE (kt.at 14) 39 (.ptr 0 0) q106.2.2).bind fun r126 => (some ((.tuple [r126, (.v (.int .i64 (0 : Int)))]), q106.2.2)))) else none)) ((loadE (kt.at 14) 39 (.ptr 0 0) q38.2.2).bind fun r127 => (some ((.tuple [r127, (.v (.int .i64 (0 : Int)))]), q38.2.2)))))) := by kernel_rfl
theorem fn14 : fnsK 14 = some (compF Tryz.f14) := by kernel_rfl
end Go.Sv
end
section
namespace Go.Sv
open Go Go.Proofs Go.Proofs.YtkflapebfmcmaaaGreat
set_option linter.all false
set_option maxRecDepth 100000

theorem append_keep {k : K} {t : TypeId} {s x : SV} {S S' : St} {y' : SV} (h : appendE k t s x S = some (y', S')) (c : Nat) (hc : c < S.next) (h1 : ∀ b n cs, s = .sl (some b) n cs → c ≠ b) (h2 : ∀ b n, s = .arr b n → c ≠ b) : S'.get c = S.get c := by
  unfold appendE at h
  simp only [Option.bind_eq_some_iff] at h
  obtain ⟨e, _, sz, _, by_, _, z, _, ⟨m, ys⟩, _, h⟩ := h
  split at h
  · cases h
  split at h
  · split at h <;> cases h <;> rfl
  split at h
  · split at h
    · split at h <;> (cases h; exact get_new _ _ _ hc)
    · cases h
  · split at h
    · split at h <;> (cases h; exact get_new _ _ _ hc)
    · cases h
  · split at h
    · split at h
      · cases h
        rw [get_new _ _ _ (by simp [St.put]; exact hc), get_put _ _ _ _ (h1 _ _ _ rfl)]
      · cases h
    · cases h
  · split at h
    · split at h
      · cases h
        rw [get_new _ _ _ (by simp [St.put]; exact hc), get_put _ _ _ _ (h2 _ _ rfl)]
      · cases h
    · cases h
  · cases h
theorem clone_spec {α : Type} {f : α → List SV} {sz by_ : Nat} (hf : ∀ x, (f x).length = sz) (l : List α) (hl : l.length * by_ ≤ room) (S : St) (hfl : S.floor ≤ S.next) :
    ∃ y S', clone sz by_ [sl f l] S = some (y, S') ∧ Own f sz l y S' ∧ S'.floor = S.floor ∧ S.next ≤ S'.next ∧ (∀ c, c < S.next → S'.get c = S.get c) ∧ ∀ b n cs, y = .sl (some b) n cs → S.next ≤ b := by
  unfold sl clone
  by_cases h : l.length = 0
  · have : l = [] := List.eq_nil_of_length_eq_zero h
    subst this
    exact ⟨.emp, S, by simp, own0 f sz hfl, rfl, Nat.le_refl _, fun _ _ => rfl, fun b n cs e => by cases e⟩
  · have hc : (l.flatMap f).length = l.length * sz := flatMap_len f sz hf l
    simp only [if_neg h]
    rw [if_pos ⟨hc, hl⟩]
    refine ⟨_, _, rfl, ⟨by simp [St.alloc]; omega, .inr ⟨S.next, rfl, by simp [St.alloc, hc], by simp [St.alloc], by simp [St.alloc]; omega⟩⟩, rfl, by simp [St.alloc], fun c hc => get_new _ _ _ hc, fun b n cs e => by cases e; omega⟩
theorem own_rd {α : Type} {f : α → List SV} {sz : Nat} {l : List α} {y : SV} {S : St} (h : Own f sz l y S) : Rd' f l y := by
  rcases h.2 with ⟨rfl, rfl⟩ | ⟨b, rfl, _⟩
  · exact .inr ⟨rfl, .inr rfl⟩
  · exact .inl ⟨some b, rfl⟩
theorem own_single {α : Type} {f : α → List SV} {sz : Nat} {l : List α} {y : SV} {S : St} (h : Own f sz l y S) : single y = true := by
  rcases h.2 with ⟨rfl, rfl⟩ | ⟨b, rfl, _⟩ <;> rfl
end Go.Sv
end
section
namespace Go.Sv
open Go Go.Proofs Go.Proofs.YtkflapebfmcmaaaGreat
set_option linter.all false
set_option maxRecDepth 100000

theorem run69 (l : List Int) (hl : l.length ≤ 1000000) (S : St) (hf : S.floor ≤ S.next) : ∃ y S', run kt (.func 69 [] []) [nums l] S = some (y, S') ∧ Rd' (ic .i64) l y ∧ single y = true ∧ S'.floor = S.floor ∧ S.next ≤ S'.next ∧ ∀ c, c < S.next → S'.get c = S.get c := by
  obtain ⟨y, S', e, o, a, b, c, _⟩ := clone_spec (f := ic .i64) (sz := 1) (by_ := 8) (fun _ => rfl) l (by simp only [room]; omega) S hf
  exact ⟨y, S', run_prim (k := kt) (f := 69) (p := clone 1 8) rfl e, own_rd o, own_single o, a, b, c⟩
theorem run70 (l : List Span) (hl : l.length ≤ 1000000) (S : St) (hf : S.floor ≤ S.next) : ∃ y S', run kt (.func 70 [] []) [spanl l] S = some (y, S') ∧ Rd' pc l y ∧ single y = true ∧ S'.floor = S.floor ∧ S.next ≤ S'.next ∧ ∀ c, c < S.next → S'.get c = S.get c := by
  obtain ⟨y, S', e, o, a, b, c, _⟩ := clone_spec (f := pc) (sz := 2) (by_ := 16) pc_len l (by simp only [room]; omega) S hf
  exact ⟨y, S', run_prim (k := kt) (f := 70) (p := clone 2 16) rfl e, own_rd o, own_single o, a, b, c⟩
theorem ag29 {k : K} (hP : k.P = Tryz.prog) : agg? k 29 = some false := by unfold agg?; rw [hP, Tryz.underlying29]
theorem sz29 {k : K} (hP : k.P = Tryz.prog) : size? k 29 = some 1 := size_of hP (by kernel_rfl)
theorem ag87 {k : K} (hP : k.P = Tryz.prog) : agg? k 87 = some false := by unfold agg?; rw [hP, Tryz.underlying87]
theorem sz87 {k : K} (hP : k.P = Tryz.prog) : size? k 87 = some 1 := size_of hP (by kernel_rfl)
theorem ag89 {k : K} (hP : k.P = Tryz.prog) : agg? k 89 = some false := by unfold agg?; rw [hP, Tryz.underlying89]
theorem sz89 {k : K} (hP : k.P = Tryz.prog) : size? k 89 = some 1 := size_of hP (by kernel_rfl)
def o92N (um : Nat) : List SV := [(.v (.slice none 0 0)), (.v (.slice none 0 0)), (.v (.int .i64 (0 : Int))), (.v (.int .i64 (0 : Int))), (.v (.int .u32 (0 : Int))), (.v (.int .u32 (0 : Int))), (.v (.int .u32 (0 : Int))), (.v (.int .u32 (0 : Int))), (.v (.int .i64 (0 : Int))), (.v (.int .i64 (0 : Int))), (.v (.int .i64 (0 : Int))), (.v (.int .i64 (0 : Int))), (.v (.slice none 0 0)), (.v (.int .i64 (0 : Int))), (.v (.slice none 0 0)), .map um, (.v (.slice none 0 0))]
/-- A builder is made. -/
theorem spec55 (b : Block) (h1 : b.tmps.length ≤ 1000000) (h2 : b.spans.length ≤ 1000000) (S : St) (hf : S.floor = 0) :
    ∃ tm sp S', run kt (.func 55 [] []) [.agg b.t31.enc] S = some (.ptr (S.next + 2) 0, S') ∧ Rd' (ic .i64) b.tmps tm ∧ Rd' pc b.spans sp ∧ S'.floor = 0 ∧ S.next + 3 ≤ S'.next ∧ S'.get (S.next + 2) = .cells (o92 tm sp (.v (.slice none 0 0)) zT b.jump (S.next + 1) (.v (.slice none 0 0))) ∧ S'.get (S.next + 1) = .map [] ∧ ∀ c, c < S.next → S'.get c = S.get c := by
  suffices ∃ tm sp S', cBody (kt.at 55) h55 (run kt) 0 (compF Tryz.f55) [.agg b.t31.enc] S = some (.ptr (S.next + 2) 0, S') ∧ Rd' (ic .i64) b.tmps tm ∧ Rd' pc b.spans sp ∧ S'.floor = 0 ∧ S.next + 3 ≤ S'.next ∧ S'.get (S.next + 2) = .cells (o92 tm sp (.v (.slice none 0 0)) zT b.jump (S.next + 1) (.v (.slice none 0 0))) ∧ S'.get (S.next + 1) = .map [] ∧ ∀ c, c < S.next → S'.get c = S.get c by
    obtain ⟨tm, sp, S', e, h⟩ := this
    exact ⟨tm, sp, S', go_plain ks_kt (f := 55) (fst := []) (cap := []) (args := [.agg b.t31.enc]) (S := S) h55 0 rfl (fn_kt 55 fn55) rfl e, h⟩
  have e0 := tell55 0 b.t31 S
  have en : (St.next (St.alloc S (.cells b.t31.enc))) = S.next + 1 := rfl
  have en2 : (St.next (St.alloc (St.alloc S (.cells b.t31.enc)) (.map []))) = S.next + 2 := rfl
  rw [en, en2] at e0
  rw [show (.cells [(.v (.slice none 0 0)), (.v (.slice none 0 0)), (.v (.int .i64 (0 : Int))), (.v (.int .i64 (0 : Int))), (.v (.int .u32 (0 : Int))), (.v (.int .u32 (0 : Int))), (.v (.int .u32 (0 : Int))), (.v (.int .u32 (0 : Int))), (.v (.int .i64 (0 : Int))), (.v (.int .i64 (0 : Int))), (.v (.int .i64 (0 : Int))), (.v (.int .i64 (0 : Int))), (.v (.slice none 0 0)), (.v (.int .i64 (0 : Int))), (.v (.slice none 0 0)), .map (S.next + 1), (.v (.slice none 0 0))] : SObj) = .cells (o92N (S.next + 1)) from rfl] at e0
  rw [e0]
  clear e0 en en2
  have gA : (((S.alloc (.cells b.t31.enc)).alloc (.map [])).alloc (.cells (o92N (S.next + 1)))).get S.next = .cells b.t31.enc := by
    rw [get_new _ _ _ (by simp [St.alloc]; omega), get_new _ _ _ (by simp [St.alloc])]; simp [St.alloc]
  have gB : (((S.alloc (.cells b.t31.enc)).alloc (.map [])).alloc (.cells (o92N (S.next + 1)))).get (S.next + 1) = .map [] := by
    rw [get_new _ _ _ (by simp [St.alloc])]; simp [St.alloc]
  have gC : (((S.alloc (.cells b.t31.enc)).alloc (.map [])).alloc (.cells (o92N (S.next + 1)))).get (S.next + 2) = .cells (o92N (S.next + 1)) := by simp [St.alloc]
  have gO : ∀ c, c < S.next → (((S.alloc (.cells b.t31.enc)).alloc (.map [])).alloc (.cells (o92N (S.next + 1)))).get c = S.get c := fun c hc => by
    rw [get_new _ _ _ (by simp [St.alloc]; omega), get_new _ _ _ (by simp [St.alloc]; omega), get_new _ _ _ hc]
  have nA : (((S.alloc (.cells b.t31.enc)).alloc (.map [])).alloc (.cells (o92N (S.next + 1)))).next = S.next + 3 := rfl
  have fA : (((S.alloc (.cells b.t31.enc)).alloc (.map [])).alloc (.cells (o92N (S.next + 1)))).floor = 0 := hf
  generalize ((S.alloc (.cells b.t31.enc)).alloc (.map [])).alloc (.cells (o92N (S.next + 1))) = SA at gA gB gC gO nA fA
  rw [nA]
  simp only [if_pos (show S.next < S.next + 3 by omega)]
  have l22 : loadE (kt.at 55) 22 (.ptr S.next 0) SA = some (nums b.tmps) := by rw [ld1 (ag22 (P_kt 55)) (sz22 (P_kt 55)) gA]; rfl
  rw [l22, Option.bind_some]
  obtain ⟨tm, S1, r1, r2, r3, f1, n1, k1⟩ := run69 b.tmps h1 SA (by omega)
  rw [r1, Option.bind_some]
  have l29 : loadE (kt.at 55) 29 (.ptr S.next 9) S1 = some (spanl b.spans) := by rw [ld1 (ag29 (P_kt 55)) (sz29 (P_kt 55)) (by rw [k1 _ (by omega)]; exact gA)]; rfl
  rw [l29, Option.bind_some]
  obtain ⟨sp, S2, q1, q2, q3, f2, n2, k2⟩ := run70 b.spans h2 S1 (by omega)
  rw [q1, Option.bind_some]
  have g2A : S2.get S.next = .cells b.t31.enc := by rw [k2 _ (by omega), k1 _ (by omega)]; exact gA
  have g2B : S2.get (S.next + 1) = .map [] := by rw [k2 _ (by omega), k1 _ (by omega)]; exact gB
  have g2C : S2.get (S.next + 2) = .cells (o92N (S.next + 1)) := by rw [k2 _ (by omega), k1 _ (by omega)]; exact gC
  have g2O : ∀ c, c < S.next → S2.get c = S.get c := fun c hc => by rw [k2 _ (by omega), k1 _ (by omega), gO c hc]
  have n2' : S.next + 3 ≤ S2.next := by omega
  have f2' : S2.floor = 0 := by omega
  clear gA gB gC gO nA fA k1 k2 n1 n2 f1 f2 l22 l29 r1 q1
  have l3 : ∀ T : St, T.get S.next = .cells b.t31.enc → loadE (kt.at 55) 3 (.ptr S.next 8) T = some (.v (.int .i64 b.jump)) := fun T h => by rw [ld1 (ag3 (P_kt 55)) (sz3 (P_kt 55)) h]; rfl
  have ask : ∀ T T' : St, T.get S.next = .cells b.t31.enc → T'.get S.next = .cells b.t31.enc → asked (kt.at 55) [(3, .ptr S.next 8)] T T' = true := fun T T' h h' => by
    simp [asked, kept, l3 T h, l3 T' h', eqO, eqSV, eqV]
  rw [l3 S2 g2A, Option.bind_some, openInt_v]
  rw [st1 (sz22 (P_kt 55)) g2C (by omega) (by simp [o92N]) r3]
  have gD : (S2.put (S.next + 2) (.cells (splice (o92N (S.next + 1)) 0 [tm]))).get S.next = .cells b.t31.enc := by rw [get_put _ _ _ _ (by omega)]; exact g2A
  rw [if_pos (by show S.next + 3 ≤ S2.next; exact n2'), if_pos (ask _ _ g2A gD)]
  rw [st1 (sz29 (P_kt 55)) (put_get _ _ _) (by show S2.floor ≤ _; omega) (by simp [o92N, splice]) q3]
  have gE : ((S2.put (S.next + 2) (.cells (splice (o92N (S.next + 1)) 0 [tm]))).put (S.next + 2) (.cells (splice (splice (o92N (S.next + 1)) 0 [tm]) 14 [sp]))).get S.next = .cells b.t31.enc := by rw [get_put _ _ _ _ (by omega)]; exact gD
  rw [if_pos (by show S.next + 3 ≤ S2.next; exact n2'), if_pos (ask _ _ gD gE)]
  rw [st1 (sz3 (P_kt 55)) (put_get _ _ _) (by show S2.floor ≤ _; omega) (by simp [o92N, splice]) rfl]
  rw [if_pos (by show S.next + 3 ≤ S2.next; exact n2')]
  refine ⟨tm, sp, _, rfl, r2, q2, f2', n2', by rw [put_get]; rfl, ?_, fun c hc => ?_⟩
  · rw [get_put _ _ _ _ (by omega), get_put _ _ _ _ (by omega), get_put _ _ _ _ (by omega)]; exact g2B
  · rw [get_put _ _ _ _ (by omega), get_put _ _ _ _ (by omega), get_put _ _ _ _ (by omega)]; exact g2O c hc
end Go.Sv
end
section
namespace Go.Sv
open Go Go.Proofs Go.Proofs.YtkflapebfmcmaaaGreat
set_option linter.all false
set_option maxRecDepth 100000

theorem findK_setK (x y : Int) (v : SV) (es : List (SV × SV)) : findK x (setK y v es) = if x = y then some v else findK x es := by
  induction es with
  | nil => simp [setK, findK]
  | cons p r ih =>
    obtain ⟨p1, d⟩ := p
    cases p1 with
    | v u =>
      cases u with
      | int q z =>
        rw [setK]
        by_cases h : y = z
        · subst h
          rw [if_pos rfl, findK, findK]
          by_cases h2 : x = y
          · rw [if_pos h2, if_pos h2]
          · rw [if_neg h2, if_neg h2, if_neg h2]
        · rw [if_neg h, findK, findK, ih]
          by_cases h2 : x = z
          · rw [if_pos h2, if_pos h2]
            have : ¬ x = y := by omega
            rw [if_neg this]
          · rw [if_neg h2, if_neg h2]
      | _ => simp only [setK, findK]; exact ih
    | _ => simp only [setK, findK]; exact ih

/-- Build under way: the builder, the cell that points to it, the counts. -/
structure CI (tm sp : SV) (j : Int) (cb lo : Nat) (out : List TStmt) (w : Wt) (d : List Atom) (S : St) : Prop where
  bs : BS 3 tm sp j 2 out w lo S
  cb3 : 3 < cb
  cbl : cb < lo
  gc : S.get cb = .cells [.ptr 3 0]
  g0 : S.get 0 = .cells z39
  mp : ∃ es, S.get 2 = .map es ∧ ∀ t, (findK t es).getD (.v (.int .i64 0)) = .v (.int .i64 (cntA d t : Int))
theorem CI.frame {tm sp : SV} {j : Int} {cb lo : Nat} {out : List TStmt} {w : Wt} {d : List Atom} {S S' : St} (h : CI tm sp j cb lo out w d S) (hf : S'.floor = S.floor) (hn : S.next ≤ S'.next) (hg : ∀ c, c < S.next → (∀ m, S.get c ≠ .own 6 m) → S'.get c = S.get c) : CI tm sp j cb lo out w d S' := by
  obtain ⟨bs, c3, cl, gc, g0, es, ge, he⟩ := h
  have hlo := bs.lon
  have bx : ∃ cs, S.get 3 = .cells cs := by obtain ⟨_, _, _, yL, raw, yw, g, _⟩ := bs; exact ⟨_, g⟩
  obtain ⟨cs3, g3⟩ := bx
  exact ⟨bs.frame hf hn (hg 3 (by omega) (by intro m; rw [g3]; simp)) (fun c hc m e => hg c hc (by intro m'; rw [e]; simp)) (fun c hc m e => hg c hc (by intro m'; rw [e]; simp)), c3, cl, by rw [hg cb (by omega) (by intro m; rw [gc]; simp)]; exact gc, by rw [hg 0 (by omega) (by intro m; rw [g0]; simp)]; exact g0, es, by rw [hg 2 (by omega) (by intro m; rw [ge]; simp)]; exact ge, he⟩
theorem CI.step {tm sp : SV} {j : Int} {cb lo : Nat} {out out' : List TStmt} {w w' : Wt} {d : List Atom} {S S' : St} (h : CI tm sp j cb lo out w d S) (bs' : BS 3 tm sp j 2 out' w' lo S') (fr : FrB 3 S S') : CI tm sp j cb lo out' w' d S' := by
  obtain ⟨bs, c3, cl, gc, g0, es, ge, he⟩ := h
  have hlo := bs.lon
  exact ⟨bs', c3, cl, fr.cells (by omega) (by omega) gc, fr.cells (by omega) (by omega) g0, es, by rw [fr.kp 2 (by omega) (by decide) (by intro m; rw [ge]; simp) (by intro m; rw [ge]; simp)]; exact ge, he⟩
theorem CI.box {tm sp : SV} {j : Int} {cb lo : Nat} {out : List TStmt} {w : Wt} {d : List Atom} {S : St} (h : CI tm sp j cb lo out w d S) (z o : SObj) : CI tm sp j cb lo out w d (boxed S z o) :=
  h.frame rfl (by rw [boxed_next]; omega) fun c hc _ => boxed_get S z o c hc

theorem im56 : intMap? (kt.at 56) 89 = some 3 := by kernel_rfl
theorem z56 : zflat? (kt.at 56) 3 = some (.int .i64 0) := by kernel_rfl
theorem fa56 (b : Nat) : fieldAddrE (kt.at 56) 92 (.ptr b 0) 1 = some (.ptr b 15) := by kernel_rfl
theorem cntA_snoc (d : List Atom) (a : Atom) (t : Int) : cntA (d ++ [a]) t = cntA d t + if t = a.tmp then 1 else 0 := by
  rw [cntA_append]
  unfold cntA
  by_cases h : t = a.tmp
  · have : (a.tmp == t) = true := by simp [h]
    simp [List.filter_cons, this, h]
  · have : (a.tmp == t) = false := by simp; omega
    simp [List.filter_cons, this, h]

/-- One more use is counted. -/
theorem spec56 (a : Atom) {tm sp : SV} {j : Int} {cb lo : Nat} {out : List TStmt} {w : Wt} {d : List Atom} {S : St} (h : CI tm sp j cb lo out w d S) (hd : d.length ≤ 1000000000) :
    ∃ S', run kt (.func 56 [] [.ptr cb 0]) [.agg a.t28.enc] S = some (.tuple [], S') ∧ CI tm sp j cb lo out w (d ++ [a]) S' ∧ S'.next = S.next ∧ S'.floor = S.floor ∧ ∀ c, c ≠ 2 → S'.get c = S.get c := by
  suffices ∃ S', cBody (kt.at 56) h56 (run kt) 0 (compF Tryz.f56) [.agg a.t28.enc, .ptr cb 0] S = some (.tuple [], S') ∧ CI tm sp j cb lo out w (d ++ [a]) S' ∧ S'.next = S.next ∧ S'.floor = S.floor ∧ ∀ c, c ≠ 2 → S'.get c = S.get c by
    obtain ⟨S', e, h⟩ := this
    exact ⟨S', go_plain ks_kt (f := 56) (fst := []) (cap := [.ptr cb 0]) (args := [.agg a.t28.enc]) (S := S) h56 0 rfl (fn_kt 56 fn56) rfl e, h⟩
  obtain ⟨bs, c3, cl, gc, g0, es, ge, he⟩ := h
  have hlo := bs.lon
  have hfl := bs.fl
  rw [tell56, if_pos (by omega), ld1 (ag87 (P_kt 56)) (sz87 (P_kt 56)) gc]
  simp only [List.drop_zero, List.head?_cons, Option.bind_some, nilE, fa56, loadK]
  rw [if_pos (by omega)]
  have bx : ∃ yL yw, S.get 3 = .cells (o92 tm sp yL zT j 2 yw) := by obtain ⟨_, _, _, yL, raw, yw, g, _⟩ := bs; exact ⟨_, _, g⟩
  obtain ⟨yL, yw, g3⟩ := bx
  rw [ld1 (ag89 (P_kt 56)) (sz89 (P_kt 56)) g3, o92_15]
  simp only [Option.bind_some]
  rw [mapL im56 z56 ge, Option.bind_some, show (a.t28.tmp : Int) = a.tmp from rfl, he]
  have hc := cntA_le d a.tmp
  have hb : binE (kt.at 56) .add 3 (.v (.int .i64 (cntA d a.tmp : Int))) (.v (.int .i64 1)) = some (.v (.int .i64 (IntKind.wrap .i64 ((cntA d a.tmp : Int) + 1)))) := rfl
  rw [hb, wrap_in (by omega) (by omega), Option.bind_some]
  rw [mapU im56 ge (by omega) rfl, Option.bind_some, if_pos (show S.next ≤ (S.put 2 _).next from Nat.le_refl _)]
  have kk : ∀ c, c ≠ 2 → (S.put 2 (.map (setK a.tmp (.v (.int .i64 ((cntA d a.tmp : Int) + 1))) es))).get c = S.get c := fun c hc => get_put _ _ _ _ hc
  refine ⟨_, rfl, ⟨bs.frame rfl (Nat.le_refl _) (kk 3 (by decide)) (fun c _ m e => kk c (by rintro rfl; rw [ge] at e; cases e)) (fun c _ m e => kk c (by rintro rfl; rw [ge] at e; cases e)), c3, cl, by rw [kk cb (by omega)]; exact gc, by rw [kk 0 (by decide)]; exact g0, _, put_get _ _ _, fun t => ?_⟩, rfl, rfl, kk⟩
  rw [findK_setK, cntA_snoc]
  by_cases ht : t = a.tmp
  · rw [if_pos ht, if_pos ht, ht]; simp
  · rw [if_neg ht, if_neg ht, he]; simp
end Go.Sv
end
