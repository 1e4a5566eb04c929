/- Parts of the proofs of this seat's laws. -/
import Derived.Test.YtkflapebfmcmaaaGreatBOnce27
section
namespace Go.Sv
open Go Go.Proofs
set_option linter.all false
set_option maxRecDepth 1000000
set_option maxHeartbeats 0
def h135 : H := { hh with live := fun b => match b with  | _ => [], keep := fun b => match b with | 19 => some [(6, 2)] | 48 => some [(6, 2)] | 65 => some [(6, 2)] | 88 => some [(6, 2)] | 111 => some [(6, 2)] | 134 => some [(6, 2)] | 171 => some [(6, 2)] | _ => none }
theorem tell135 (N : Nat) (n0 : Nat) (k0 : List SV) (u1 : T55) : cBody (kt.at 135) h135 (run kt) N (compF Tryz.f135) [.sl none n0 k0, .agg u1.enc] St0 = (run kt (.func 133 [] []) [(.sl none n0 k0), u1.l] St0).bind fun p0 => (splitB (.v (.bool (u1.kind == (1 : Int))))
 (((lenE (kt.at 135) 22 p0.1).bind fun r1 => openInt r1 fun a2 => (splitB (.v (.bool (a2 == (1 : Int))))
 ((indexAddrE (kt.at 135) 22 p0.1 (.v (.int .i64 (0 : Int)))).bind fun r3 => loadK (kt.at 135) (St.next p0.2) 3 r3 p0.2 fun r4 => openInt r4 fun a5 => (splitB (.v (.bool (a5 != (0 : Int))))
 ((indexAddrE (kt.at 135) 22 p0.1 (.v (.int .i64 (0 : Int)))).bind fun r6 => loadK (kt.at 135) (St.next p0.2) 3 r6 p0.2 fun r7 => openInt r7 fun a8 => (splitB (.v (.bool (a8 == u1.ty)))
 ((splitB (.v (.bool (u1.op == (0 : Int))))
 ((some [(.v (.bool (u1.off == (0 : Int))))]))
 ((some [(.v (.bool false))]))))
 ((some [(.v (.bool false))]))))
 ((some [(.v (.bool false))]))))
 ((some [(.v (.bool false))])))).bind fun vs9 => openHd vs9 fun y10 r11 => openBool y10 fun b12 => (splitB (.v (.bool (!b12)))
 ((some ((.v (.int .i64 (0 : Int))), p0.2)))
 ((some ((.v (.int .i64 u1.ty)), p0.2)))))
 ((splitB (.v (.bool (u1.kind == (2 : Int))))
 (((lenE (kt.at 135) 22 p0.1).bind fun r13 => openInt r13 fun a14 => (splitB (.v (.bool (a14 == (0 : Int))))
 ((splitB (.v (.bool (u1.op == (0 : Int))))
 ((run kt (.func 136 [] []) [(.v (.int .i64 u1.ty)), (.v (.int .i64 u1.off))] p0.2).bind fun p15 => openBool p15.1 fun b16 => (some [(.v (.bool b16))]))
 ((some [(.v (.bool false))]))))
 ((some [(.v (.bool false))])))).bind fun vs17 => openHd vs17 fun y18 r19 => openBool y18 fun b20 => (splitB (.v (.bool (!b20)))
 ((some ((.v (.int .i64 (0 : Int))), p0.2)))
 ((some ((.v (.int .i64 u1.ty)), p0.2)))))
 ((splitB (.v (.bool (u1.kind == (3 : Int))))
 (((lenE (kt.at 135) 22 p0.1).bind fun r21 => openInt r21 fun a22 => (splitB (.v (.bool (a22 == (1 : Int))))
 ((indexAddrE (kt.at 135) 22 p0.1 (.v (.int .i64 (0 : Int)))).bind fun r23 => loadK (kt.at 135) (St.next p0.2) 3 r23 p0.2 fun r24 => openInt r24 fun a25 => (run kt (.func 179 [] []) [(.v (.int .i64 u1.op)), (.v (.int .i64 a25)), (.v (.int .i64 u1.ty))] p0.2).bind fun p26 => openBool p26.1 fun b27 => (splitB (.v (.bool b27))
 ((run kt (.func 180 [] []) [(.v (.bool (u1.op == (12 : Int)))), (.v (.int .i64 u1.off))] p26.2).bind fun p28 => openBool p28.1 fun b29 => (some [(.v (.bool b29))]))
 ((some [(.v (.bool false))]))))
 ((some [(.v (.bool false))])))).bind fun vs30 => openHd vs30 fun y31 r32 => openBool y31 fun b33 => (splitB (.v (.bool (!b33)))
 ((some ((.v (.int .i64 (0 : Int))), p0.2)))
 ((some ((.v (.int .i64 u1.ty)), p0.2)))))
 ((splitB (.v (.bool (u1.kind == (4 : Int))))
 (((lenE (kt.at 135) 22 p0.1).bind fun r34 => openInt r34 fun a35 => (splitB (.v (.bool (a35 == (2 : Int))))
 ((run kt (.func 181 [] []) [(.v (.int .i64 u1.op)), p0.1, (.v (.int .i64 u1.ty))] p0.2).bind fun p36 => openBool p36.1 fun b37 => (splitB (.v (.bool b37))
 ((run kt (.func 180 [] []) [(.v (.bool (u1.op == (30 : Int)))), (.v (.int .i64 u1.off))] p36.2).bind fun p38 => openBool p38.1 fun b39 => (some [(.v (.bool b39))]))
 ((some [(.v (.bool false))]))))
 ((some [(.v (.bool false))])))).bind fun vs40 => openHd vs40 fun y41 r42 => openBool y41 fun b43 => (splitB (.v (.bool (!b43)))
 ((some ((.v (.int .i64 (0 : Int))), p0.2)))
 ((some ((.v (.int .i64 u1.ty)), p0.2)))))
 ((splitB (.v (.bool (u1.kind == (5 : Int))))
 ((run kt (.func 76 [] []) [p0.1, (.sl (some (St.next p0.2)) 1 [(.v (.int .i64 (32 : Int)))])] (St.alloc p0.2 (.own 1 1))).bind fun p44 => openBool p44.1 fun b45 => (splitB (.v (.bool b45))
 ((run kt (.func 137 [] []) [(.v (.int .i64 u1.ty))] p44.2).bind fun p46 => openBool p46.1 fun b47 => (splitB (.v (.bool b47))
 ((splitB (.v (.bool (u1.op == (0 : Int))))
 ((splitB (.v (.bool (u1.kind == (9 : Int))))
 ((splitB (.v (.bool (!(u1.off == (0 : Int)))))
 ((some ((.v (.int .i64 (0 : Int))), p46.2)))
 ((some ((.v (.int .i64 (32 : Int))), p46.2)))))
 ((splitB (.v (.bool (!(u1.off == (0 : Int)))))
 ((some ((.v (.int .i64 (0 : Int))), p46.2)))
 ((some ((.v (.int .i64 u1.ty)), p46.2)))))))
 ((splitB (.v (.bool (u1.kind == (9 : Int))))
 ((some ((.v (.int .i64 (0 : Int))), p46.2)))
 ((some ((.v (.int .i64 (0 : Int))), p46.2)))))))
 ((splitB (.v (.bool (u1.kind == (9 : Int))))
 ((some ((.v (.int .i64 (0 : Int))), p46.2)))
 ((some ((.v (.int .i64 (0 : Int))), p46.2)))))))
 ((splitB (.v (.bool (u1.kind == (9 : Int))))
 ((some ((.v (.int .i64 (0 : Int))), p44.2)))
 ((some ((.v (.int .i64 (0 : Int))), p44.2)))))))
 ((splitB (.v (.bool (u1.kind == (6 : Int))))
 ((run kt (.func 76 [] []) [p0.1, (.sl (some (St.next p0.2)) 1 [(.v (.int .i64 (32 : Int)))])] (St.alloc p0.2 (.own 1 1))).bind fun p48 => openBool p48.1 fun b49 => (splitB (.v (.bool b49))
 ((run kt (.func 137 [] []) [(.v (.int .i64 u1.ty))] p48.2).bind fun p50 => openBool p50.1 fun b51 => (splitB (.v (.bool b51))
 ((splitB (.v (.bool (u1.op == (0 : Int))))
 ((splitB (.v (.bool (u1.kind == (9 : Int))))
 ((splitB (.v (.bool (!(u1.off == (0 : Int)))))
 ((some ((.v (.int .i64 (0 : Int))), p50.2)))
 ((some ((.v (.int .i64 (32 : Int))), p50.2)))))
 ((splitB (.v (.bool (!(u1.off == (0 : Int)))))
 ((some ((.v (.int .i64 (0 : Int))), p50.2)))
 ((some ((.v (.int .i64 u1.ty)), p50.2)))))))
 ((splitB (.v (.bool (u1.kind == (9 : Int))))
 ((some ((.v (.int .i64 (0 : Int))), p50.2)))
 ((some ((.v (.int .i64 (0 : Int))), p50.2)))))))
 ((splitB (.v (.bool (u1.kind == (9 : Int))))
 ((some ((.v (.int .i64 (0 : Int))), p50.2)))
 ((some ((.v (.int .i64 (0 : Int))), p50.2)))))))
 ((splitB (.v (.bool (u1.kind == (9 : Int))))
 ((some ((.v (.int .i64 (0 : Int))), p48.2)))
 ((some ((.v (.int .i64 (0 : Int))), p48.2)))))))
 ((splitB (.v (.bool (u1.kind == (9 : Int))))
 ((run kt (.func 76 [] []) [p0.1, (.sl (some (St.next p0.2)) 1 [(.v (.int .i64 (32 : Int)))])] (St.alloc p0.2 (.own 1 1))).bind fun p52 => openBool p52.1 fun b53 => (splitB (.v (.bool b53))
 ((run kt (.func 137 [] []) [(.v (.int .i64 u1.ty))] p52.2).bind fun p54 => openBool p54.1 fun b55 => (splitB (.v (.bool b55))
 ((splitB (.v (.bool (u1.op == (0 : Int))))
 ((splitB (.v (.bool (u1.kind == (9 : Int))))
 ((splitB (.v (.bool (!(u1.off == (0 : Int)))))
 ((some ((.v (.int .i64 (0 : Int))), p54.2)))
 ((some ((.v (.int .i64 (32 : Int))), p54.2)))))
 ((splitB (.v (.bool (!(u1.off == (0 : Int)))))
 ((some ((.v (.int .i64 (0 : Int))), p54.2)))
 ((some ((.v (.int .i64 u1.ty)), p54.2)))))))
 ((splitB (.v (.bool (u1.kind == (9 : Int))))
 ((some ((.v (.int .i64 (0 : Int))), p54.2)))
 ((some ((.v (.int .i64 (0 : Int))), p54.2)))))))
 ((splitB (.v (.bool (u1.kind == (9 : Int))))
 ((some ((.v (.int .i64 (0 : Int))), p54.2)))
 ((some ((.v (.int .i64 (0 : Int))), p54.2)))))))
 ((splitB (.v (.bool (u1.kind == (9 : Int))))
 ((some ((.v (.int .i64 (0 : Int))), p52.2)))
 ((some ((.v (.int .i64 (0 : Int))), p52.2)))))))
 ((splitB (.v (.bool (u1.kind == (7 : Int))))
 (((lenE (kt.at 135) 22 p0.1).bind fun r56 => openInt r56 fun a57 => (splitB (.v (.bool (a57 == (3 : Int))))
 ((indexAddrE (kt.at 135) 22 p0.1 (.v (.int .i64 (0 : Int)))).bind fun r58 => loadK (kt.at 135) (St.next p0.2) 3 r58 p0.2 fun r59 => openInt r59 fun a60 => (splitB (.v (.bool (a60 == (1 : Int))))
 ((sliceE (kt.at 135) 22 p0.1 (some (.v (.int .i64 (1 : Int)))) none).bind fun r61 => (run kt (.func 139 [] []) [r61, (.v (.int .i64 (2 : Int)))] p0.2).bind fun p62 => openBool p62.1 fun b63 => (splitB (.v (.bool b63))
 ((indexAddrE (kt.at 135) 22 p0.1 (.v (.int .i64 (1 : Int)))).bind fun r64 => loadK (kt.at 135) (St.next p0.2) 3 r64 p62.2 fun r65 => openInt r65 fun a66 => (splitB (.v (.bool (a66 == u1.ty)))
 ((splitB (.v (.bool (u1.op == (0 : Int))))
 ((some [(.v (.bool (u1.off == (0 : Int))))]))
 ((some [(.v (.bool false))]))))
 ((some [(.v (.bool false))]))))
 ((some [(.v (.bool false))]))))
 ((some [(.v (.bool false))]))))
 ((some [(.v (.bool false))])))).bind fun vs67 => openHd vs67 fun y68 r69 => openBool y68 fun b70 => (splitB (.v (.bool (!b70)))
 ((some ((.v (.int .i64 (0 : Int))), p0.2)))
 ((some ((.v (.int .i64 u1.ty)), p0.2)))))
 ((splitB (.v (.bool (u1.kind == (8 : Int))))
 ((splitB (.v (.bool (u1.op == (2 : Int))))
 (((splitB (.v (.bool (u1.op == (1 : Int))))
 ((run kt (.func 139 [] []) [p0.1, (.v (.int .i64 (5 : Int)))] p0.2).bind fun p71 => openBool p71.1 fun b72 => (splitB (.v (.bool b72))
 ((indexAddrE (kt.at 135) 22 p0.1 (.v (.int .i64 (0 : Int)))).bind fun r73 => (loadE (kt.at 135) 3 r73 p71.2).bind fun r74 => openInt r74 fun a75 => (splitB (.v (.bool (a75 == (32 : Int))))
 ((splitB (.v (.bool (u1.ty == (32 : Int))))
 ((some [(.v (.bool (u1.off == (0 : Int))))]))
 ((some [(.v (.bool false))]))))
 ((some [(.v (.bool false))]))))
 ((some [(.v (.bool false))]))))
 ((splitB (.v (.bool (u1.op == (2 : Int))))
 ((run kt (.func 139 [] []) [p0.1, (.v (.int .i64 (5 : Int)))] p0.2).bind fun p76 => openBool p76.1 fun b77 => (splitB (.v (.bool b77))
 ((indexAddrE (kt.at 135) 22 p0.1 (.v (.int .i64 (0 : Int)))).bind fun r78 => (loadE (kt.at 135) 3 r78 p76.2).bind fun r79 => openInt r79 fun a80 => (splitB (.v (.bool (a80 == (32 : Int))))
 ((splitB (.v (.bool (u1.ty == (32 : Int))))
 ((some [(.v (.bool (u1.off == (0 : Int))))]))
 ((some [(.v (.bool false))]))))
 ((some [(.v (.bool false))]))))
 ((some [(.v (.bool false))]))))
 ((some [(.v (.bool false))])))))).bind fun vs81 => openHd vs81 fun y82 r83 => openBool y82 fun b84 => (splitB (.v (.bool (!b84)))
 ((some ((.v (.int .i64 (0 : Int))), p0.2)))
 ((some ((.v (.int .i64 u1.ty)), p0.2)))))
 (((splitB (.v (.bool (u1.op == (1 : Int))))
 ((run kt (.func 139 [] []) [p0.1, (.v (.int .i64 (4 : Int)))] p0.2).bind fun p85 => openBool p85.1 fun b86 => (splitB (.v (.bool b86))
 ((indexAddrE (kt.at 135) 22 p0.1 (.v (.int .i64 (0 : Int)))).bind fun r87 => (loadE (kt.at 135) 3 r87 p85.2).bind fun r88 => openInt r88 fun a89 => (splitB (.v (.bool (a89 == (32 : Int))))
 ((splitB (.v (.bool (u1.ty == (32 : Int))))
 ((some [(.v (.bool (u1.off == (0 : Int))))]))
 ((some [(.v (.bool false))]))))
 ((some [(.v (.bool false))]))))
 ((some [(.v (.bool false))]))))
 ((splitB (.v (.bool (u1.op == (2 : Int))))
 ((run kt (.func 139 [] []) [p0.1, (.v (.int .i64 (4 : Int)))] p0.2).bind fun p90 => openBool p90.1 fun b91 => (splitB (.v (.bool b91))
 ((indexAddrE (kt.at 135) 22 p0.1 (.v (.int .i64 (0 : Int)))).bind fun r92 => (loadE (kt.at 135) 3 r92 p90.2).bind fun r93 => openInt r93 fun a94 => (splitB (.v (.bool (a94 == (32 : Int))))
 ((splitB (.v (.bool (u1.ty == (32 : Int))))
 ((some [(.v (.bool (u1.off == (0 : Int))))]))
 ((some [(.v (.bool false))]))))
 ((some [(.v (.bool false))]))))
 ((some [(.v (.bool false))]))))
 ((some [(.v (.bool false))])))))).bind fun vs95 => openHd vs95 fun y96 r97 => openBool y96 fun b98 => (splitB (.v (.bool (!b98)))
 ((some ((.v (.int .i64 (0 : Int))), p0.2)))
 ((some ((.v (.int .i64 u1.ty)), p0.2)))))))
 ((some ((.v (.int .i64 (0 : Int))), p0.2)))))))))))))))))))) := by kernel_rfl
theorem fn135 : fnsK 135 = some (compF Tryz.f135) := by kernel_rfl
def h140 : H := { hh with live := fun b => match b with | 0 => [(5, 0), (6, 2), (7, 1)] | _ => [], keep := fun b => match b with | 14 => some [(23, 2)] | _ => none }
theorem tell140 (N : Nat) (n0 : Nat) (k0 : List SV) (u1 : Int) : cBody (kt.at 140) h140 (run kt) N (compF Tryz.f140) [.sl none n0 k0, .v (.int .i64 u1)] St0 = (iter (fun vs0 S1 => openHd vs0 fun y2 r3 => openHd r3 fun y4 r5 => openBool y4 fun b6 => openHd r5 fun y7 r8 => openInt y7 fun a9 => (splitB (.v (.bool (decide (a9 < ((n0 : Nat) : Int)))))
 (((splitB (.v (.bool (!b6)))
 ((indexAddrE (kt.at 140) 22 (.sl none n0 k0) (.v (.int .i64 a9))).bind fun r10 => (loadE (kt.at 140) 3 r10 S1).bind fun r11 => openInt r11 fun a12 => (some [(.v (.bool (decide (a12 ≥ u1))))]))
 ((some [(.v (.bool false))])))).bind fun vs13 => openHd vs13 fun y14 r15 => openBool y14 fun b16 => (splitB (.v (.bool b16))
 ((indexAddrE (kt.at 140) 22 (.sl none n0 k0) (.v (.int .i64 a9))).bind fun r17 => (loadE (kt.at 140) 3 r17 S1).bind fun r18 => openInt r18 fun a19 => (splitB (.v (.bool (decide (a19 > u1))))
 ((appendE (kt.at 140) 22 y2 (.sl (some (St.next S1)) 1 [(.v (.int .i64 u1))]) (St.alloc S1 (.own 1 1))).bind fun p20 => (indexAddrE (kt.at 140) 22 (.sl none n0 k0) (.v (.int .i64 a9))).bind fun r21 => (loadE (kt.at 140) 3 r21 p20.2).bind fun r22 => openInt r22 fun a23 => (appendE (kt.at 140) 22 p20.1 (.sl (some (St.next p20.2)) 1 [(.v (.int .i64 a23))]) (St.alloc p20.2 (.own 1 1))).bind fun p24 => (some (.normal, ([p24.1, (.v (.bool true)), (.v (.int .i64 (IntKind.wrap .i64 (a9 + (1 : Int)))))], p24.2))))
 ((indexAddrE (kt.at 140) 22 (.sl none n0 k0) (.v (.int .i64 a9))).bind fun r25 => (loadE (kt.at 140) 3 r25 S1).bind fun r26 => openInt r26 fun a27 => (appendE (kt.at 140) 22 y2 (.sl (some (St.next S1)) 1 [(.v (.int .i64 a27))]) (St.alloc S1 (.own 1 1))).bind fun p28 => (some (.normal, ([p28.1, (.v (.bool true)), (.v (.int .i64 (IntKind.wrap .i64 (a9 + (1 : Int)))))], p28.2))))))
 ((indexAddrE (kt.at 140) 22 (.sl none n0 k0) (.v (.int .i64 a9))).bind fun r29 => (loadE (kt.at 140) 3 r29 S1).bind fun r30 => openInt r30 fun a31 => (appendE (kt.at 140) 22 y2 (.sl (some (St.next S1)) 1 [(.v (.int .i64 a31))]) (St.alloc S1 (.own 1 1))).bind fun p32 => (some (.normal, ([p32.1, (.v (.bool b6)), (.v (.int .i64 (IntKind.wrap .i64 (a9 + (1 : Int)))))], p32.2))))))
 ((some ((.exit 0), ([y2, (.v (.bool b6)), (.v (.int .i64 a9))], S1)))))) N [(.v (.slice none 0 0)), (.v (.bool false)), (.v (.int .i64 (0 : Int)))] St0).bind fun q33 => openHd q33.2.1 fun y34 r35 => openHd r35 fun y36 r37 => openBool y36 fun b38 => openHd r37 fun y39 r40 => openInt y39 fun a41 => (exits q33.1 (fun i42 => (if i42 = 0 then (splitB (.v (.bool (!b38)))
 ((appendE (kt.at 140) 22 y34 (.sl (some (St.next q33.2.2)) 1 [(.v (.int .i64 u1))]) (St.alloc q33.2.2 (.own 1 1))).bind fun p43 => (some (p43.1, p43.2)))
 ((some (y34, q33.2.2)))) else none)) ((some ((.v (.slice none 0 0)), q33.2.2)))) := by kernel_rfl
theorem fn140 : fnsK 140 = some (compF Tryz.f140) := by kernel_rfl
def h79 : H := { hh with live := fun b => match b with | 0 => [(4, 0), (5, 1)] | _ => [], keep := fun b => match b with  | _ => none }
theorem tell79 (N : Nat) (u0 : T57) : cBody (kt.at 79) h79 (run kt) N (compF Tryz.f79) [.agg u0.enc] St0 = (appendE (kt.at 79) 53 .emp u0.l St0).bind fun p0 => (splitB (.v (.bool (u0.kind == (2 : Int))))
 ((appendE (kt.at 79) 53 p0.1 u0.e_L p0.2).bind fun p1 => (iter (fun vs2 S3 => openHd vs2 fun y4 r5 => openHd r5 fun y6 r7 => openInt y6 fun a8 => (lenE (kt.at 79) 53 p1.1).bind fun r9 => openInt r9 fun a10 => (splitB (.v (.bool (decide (a8 < a10))))
 ((indexAddrE (kt.at 79) 53 p1.1 (.v (.int .i64 a8))).bind fun r11 => openCp cd28 r11 fun t12 => (splitB (.v (.bool (decide (t12.tmp ≥ (0 : Int)))))
 ((indexAddrE (kt.at 79) 53 p1.1 (.v (.int .i64 a8))).bind fun r13 => openCp cd28 r13 fun t14 => (run kt (.func 140 [] []) [y4, (.v (.int .i64 t14.tmp))] S3).bind fun p15 => (some (.normal, ([p15.1, (.v (.int .i64 (IntKind.wrap .i64 (a8 + (1 : Int)))))], p15.2))))
 ((some (.normal, ([y4, (.v (.int .i64 (IntKind.wrap .i64 (a8 + (1 : Int)))))], S3))))))
 ((some ((.exit 0), ([y4, (.v (.int .i64 a8))], S3)))))) N [(.v (.slice none 0 0)), (.v (.int .i64 (0 : Int)))] p1.2).bind fun q16 => openHd q16.2.1 fun y17 r18 => openHd r18 fun y19 r20 => openInt y19 fun a21 => (exits q16.1 (fun i22 => (if i22 = 0 then (some (y17, q16.2.2)) else none)) ((some ((.v (.slice none 0 0)), q16.2.2)))))
 ((iter (fun vs23 S24 => openHd vs23 fun y25 r26 => openHd r26 fun y27 r28 => openInt y27 fun a29 => (lenE (kt.at 79) 53 p0.1).bind fun r30 => openInt r30 fun a31 => (splitB (.v (.bool (decide (a29 < a31))))
 ((indexAddrE (kt.at 79) 53 p0.1 (.v (.int .i64 a29))).bind fun r32 => openCp cd28 r32 fun t33 => (splitB (.v (.bool (decide (t33.tmp ≥ (0 : Int)))))
 ((indexAddrE (kt.at 79) 53 p0.1 (.v (.int .i64 a29))).bind fun r34 => openCp cd28 r34 fun t35 => (run kt (.func 140 [] []) [y25, (.v (.int .i64 t35.tmp))] S24).bind fun p36 => (some (.normal, ([p36.1, (.v (.int .i64 (IntKind.wrap .i64 (a29 + (1 : Int)))))], p36.2))))
 ((some (.normal, ([y25, (.v (.int .i64 (IntKind.wrap .i64 (a29 + (1 : Int)))))], S24))))))
 ((some ((.exit 0), ([y25, (.v (.int .i64 a29))], S24)))))) N [(.v (.slice none 0 0)), (.v (.int .i64 (0 : Int)))] p0.2).bind fun q37 => openHd q37.2.1 fun y38 r39 => openHd r39 fun y40 r41 => openInt y40 fun a42 => (exits q37.1 (fun i43 => (if i43 = 0 then (some (y38, q37.2.2)) else none)) ((some ((.v (.slice none 0 0)), q37.2.2)))))) := by kernel_rfl
theorem fn79 : fnsK 79 = some (compF Tryz.f79) := by kernel_rfl
def h53 : H := { hh with live := fun b => match b with | 0 => [(4, 1), (5, 1)] | _ => [], keep := fun b => match b with  | _ => none }
theorem tell53 (N : Nat) (u0 : T31) : cBody (kt.at 53) h53 (run kt) N (compF Tryz.f53) [.agg u0.enc] St0 = (iter (fun vs0 S1 => openHd vs0 fun y2 r3 => openInt y2 fun a4 => openHd r3 fun y5 r6 => openInt y5 fun a7 => (lenE (kt.at 53) 23 u0.l).bind fun r8 => openInt r8 fun a9 => (splitB (.v (.bool (decide (a7 < a9))))
 ((indexAddrE (kt.at 53) 23 u0.l (.v (.int .i64 a7))).bind fun r10 => openCp cd57 r10 fun t11 => (lenE (kt.at 53) 53 t11.l).bind fun r12 => openInt r12 fun a13 => (indexAddrE (kt.at 53) 23 u0.l (.v (.int .i64 a7))).bind fun r14 => openCp cd57 r14 fun t15 => (lenE (kt.at 53) 53 t15.e_L).bind fun r16 => openInt r16 fun a17 => (some (.normal, ([(.v (.int .i64 (IntKind.wrap .i64 ((IntKind.wrap .i64 (a4 + a13)) + a17)))), (.v (.int .i64 (IntKind.wrap .i64 (a7 + (1 : Int)))))], S1))))
 ((some ((.exit 0), ([(.v (.int .i64 a4)), (.v (.int .i64 a7))], S1)))))) N [(.v (.int .i64 (1 : Int))), (.v (.int .i64 (0 : Int)))] St0).bind fun q18 => openHd q18.2.1 fun y19 r20 => openInt y19 fun a21 => openHd r20 fun y22 r23 => openInt y22 fun a24 => (exits q18.1 (fun i25 => (if i25 = 0 then (lenE (kt.at 53) 23 u0.l).bind fun r26 => openInt r26 fun a27 => (some ((.tuple [(.v (.int .i64 a27)), (.v (.int .i64 a21))]), q18.2.2)) else none)) ((some ((.tuple [(.v (.int .i64 (0 : Int))), (.v (.int .i64 (0 : Int)))]), q18.2.2)))) := by kernel_rfl
theorem fn53 : fnsK 53 = some (compF Tryz.f53) := by kernel_rfl
def h13 : H := { hh with live := fun b => match b with  | _ => [], keep := fun b => match b with | 10 => some [(2, 2)] | _ => none }
theorem tell13 (N : Nat) (u0 : T31) : cBody (kt.at 13) h13 (run kt) N (compF Tryz.f13) [.agg u0.enc] St0 = (run kt (.func 53 [] []) [(.agg u0.enc)] St0).bind fun p0 => openTup p0.1 fun l1 => openHd l1 fun y2 r3 => openInt y2 fun a4 => openHd r3 fun y5 r6 => openInt y5 fun a7 => openNil r6 (((splitB (.v (.bool (decide (a4 ≤ (300 : Int)))))
 ((splitB (.v (.bool (decide (a7 ≤ (3000 : Int)))))
 ((lenE (kt.at 13) 22 u0.tmps).bind fun r8 => openInt r8 fun a9 => (splitB (.v (.bool (decide (a9 ≤ (4100 : Int)))))
 ((lenE (kt.at 13) 29 u0.spans).bind fun r10 => openInt r10 fun a11 => (some [(.v (.bool (decide (a11 ≤ (200 : Int)))))]))
 ((some [(.v (.bool false))]))))
 ((some [(.v (.bool false))]))))
 ((some [(.v (.bool false))])))).bind fun vs12 => openHd vs12 fun y13 r14 => openBool y13 fun b15 => (some ((.v (.bool b15)), p0.2))) := by kernel_rfl
theorem fn13 : fnsK 13 = some (compF Tryz.f13) := by kernel_rfl
end Go.Sv
end
section
namespace Go.Sv
open Go Go.Proofs Go.Proofs.YtkflapebfmcmaaaGreat
set_option linter.all false
set_option maxRecDepth 100000

def ExI (r : Option (SV × St)) (b : Int) : Prop := ∃ S, r = some (.v (.int .i64 b), S)
theorem exI (b : Int) (S : St) : ExI (some (.v (.int .i64 b), S)) b := ⟨S, rfl⟩
theorem closed_int {f : FuncId} {args : List SV} {S : St} {c : CF} (h : H) (N : Nat) {b : Int} (hp : kt.prim f = none) (hc : kt.fns f = some c) (hm : kt.mode f = 3) (e : ExI (cBody (kt.at f) h (run kt) N c (args.map fun x => weak (shut x)) St0) b) : run kt (.func f [] []) args S = some (.v (.int .i64 b), S) := by
  obtain ⟨S2, e⟩ := e
  exact go_closed ks_kt (f := f) (fst := []) (cap := []) (args := args) (S := S) h N hp hc hm (z := (.v (.int .i64 b), S2)) (by simpa using e)
theorem idx0 {k : K} (hP : k.P = Tryz.prog) (x : Int) (r : List Int) : indexAddrE k 22 (nums (x :: r)) (.v (.int .i64 0)) = some (.cp [.v (.int .i64 x)]) := index_nums hP .i64 (x :: r) 0 (by simp)
theorem idx1 {k : K} (hP : k.P = Tryz.prog) (x y : Int) (r : List Int) : indexAddrE k 22 (nums (x :: y :: r)) (.v (.int .i64 1)) = some (.cp [.v (.int .i64 y)]) := index_nums hP .i64 (x :: y :: r) 1 (by simp)

/-- The type of an expression out of its elements' types, 0 if it has none. -/
def okM (k ty op off : Int) (l : List Int) : Bool :=
  if (k == 1) = true then decide (l.length = 1) && (l.headD 0 != 0 && (l.headD 0 == ty && (op == 0 && off == 0)))
  else if (k == 2) = true then decide (l.length = 0) && (op == 0 && placesM ty off)
  else if (k == 3) = true then decide (l.length = 1) && (unaryM op (l.headD 0) ty && wordM (op == 12) off)
  else if (k == 4) = true then decide (l.length = 2) && (binaryM op l ty && wordM (op == 30) off)
  else if (k == 5) = true then areM l [32] && (storM ty && (op == 0 && off == 0))
  else if (k == 6) = true then areM l [32] && (storM ty && (op == 0 && off == 0))
  else if (k == 9) = true then areM l [32] && (storM ty && (op == 0 && off == 0))
  else if (k == 7) = true then decide (l.length = 3) && (l.headD 0 == 1 && (sameM l.tail 2 && (l.tail.headD 0 == ty && (op == 0 && off == 0))))
  else if (k == 8) = true then (op == 1 || op == 2) && (sameM l (if op == 2 then 5 else 4) && (l.headD 0 == 32 && (ty == 32 && off == 0)))
  else false
def tyM (k ty op off : Int) (l : List Int) : Int := if (!okM k ty op off l) = true then 0 else if (k == 9) = true then 32 else ty

theorem ty1 (k ty op off : Int) (l : List Int) (hl : l.length ≤ 1000000) (h : (k == 1) = true) (S : St) :
    ExI (((lenE (kt.at 135) 22 (nums l)).bind fun r1 => openInt r1 fun a2 => (splitB (.v (.bool (a2 == (1 : Int))))
 ((indexAddrE (kt.at 135) 22 (nums l) (.v (.int .i64 (0 : Int)))).bind fun r3 => loadK (kt.at 135) (St.next S) 3 r3 S fun r4 => openInt r4 fun a5 => (splitB (.v (.bool (a5 != (0 : Int))))
 ((indexAddrE (kt.at 135) 22 (nums l) (.v (.int .i64 (0 : Int)))).bind fun r6 => loadK (kt.at 135) (St.next S) 3 r6 S fun r7 => openInt r7 fun a8 => (splitB (.v (.bool (a8 == ty)))
 ((splitB (.v (.bool (op == (0 : Int))))
 ((some [(.v (.bool (off == (0 : Int))))]))
 ((some [(.v (.bool false))]))))
 ((some [(.v (.bool false))]))))
 ((some [(.v (.bool false))]))))
 ((some [(.v (.bool false))])))).bind fun vs9 => openHd vs9 fun y10 r11 => openBool y10 fun b12 => (splitB (.v (.bool (!b12)))
 ((some ((.v (.int .i64 (0 : Int))), S)))
 ((some ((.v (.int .i64 ty)), S))))) (tyM k ty op off l) := by
  have hk : k = 1 := by simpa using h
  subst hk
  have : tyM 1 ty op off l = if (!(decide (l.length = 1) && (l.headD 0 != 0 && (l.headD 0 == ty && (op == 0 && off == 0))))) = true then 0 else ty := rfl
  rw [this]
  match l, hl with
  | [], _ => exact exI _ _
  | [x], _ =>
    simp only [len_nums (P_kt 135), idx0 (P_kt 135), Option.bind_some, openInt_v, loadK_cp (P_kt 135), splitB_if, mlb, ite_and, openHd_v, openBool_v, List.length_singleton, List.headD_cons]
    simp only [mi]
    exact exI _ _
  | x :: y :: r, hl =>
    have e1 : (((x :: y :: r).length : Int) == 1) = false := by simp; omega
    have e2 : (decide ((x :: y :: r).length = 1)) = false := by simp
    simp only [len_nums (P_kt 135), Option.bind_some, openInt_v, splitB_if, e1, e2, Bool.false_and]
    exact exI _ _

theorem exI_split {c : Bool} {A B : Option (SV × St)} {v : Int} (h1 : c = true → ExI A v) (h2 : c = false → ExI B v) : ExI (splitB (.v (.bool c)) A B) v := by
  cases c
  · exact h2 rfl
  · exact h1 rfl
theorem typesM_len (l : List Int) (xs : List Atom) : (typesM l xs).length = xs.length := by simp [typesM]

def exprTyM (l : List Int) (e : Expr) : Int := tyM e.kind e.ty e.op e.off (typesM l e.l)
theorem slice1 {k : K} (hP : k.P = Tryz.prog) (x : Int) (r : List Int) : sliceE k 22 (nums (x :: r)) (some (.v (.int .i64 1))) none = some (nums r) := by
  have hs : size? k 3 = some 1 := size_of hP size3
  simp only [sliceE, elem_of hP Tryz.underlying22, hs, Option.bind_some, nums, sl]
  rw [if_pos ⟨by omega, by simp; omega, by omega, by rw [flatMap_len (ic .i64) 1 (ic_len .i64)]⟩]
  have h1 : ((↑(x :: r).length : Int).toNat - (1 : Int).toNat) = r.length := by simp
  have h2 : (1 : Int).toNat * 1 = 1 := rfl
  rw [h1, h2]
  have h3 : (((x :: r).flatMap (ic .i64)).drop 1) = r.flatMap (ic .i64) := by simp [ic]
  rw [h3, List.take_of_length_le (by rw [flatMap_len (ic .i64) 1 (ic_len .i64)]; omega)]
set_option maxHeartbeats 4000000 in
theorem spec135 (l : List Int) (e : Expr) (hl : e.l.length ≤ 1000000) (S : St) : run kt (.func 135 [] []) [nums l, .agg e.t55.enc] S = some (.v (.int .i64 (exprTyM l e)), S) := by
  refine closed_int h135 0 rfl (fn_kt 135 fn135) rfl ?_
  simp only [List.map_cons, List.map_nil, nums_ws, expr_ws]
  have e0 := tell135 0 l.length (l.flatMap (ic .i64)) e.t55
  rw [show SV.sl none l.length (l.flatMap (ic .i64)) = nums l from rfl] at e0
  rw [e0]
  clear e0
  obtain ⟨k, ty, op, off, xs⟩ := e
  have hr := spec133 l xs hl St0
  simp only [Expr.t55, hr, Option.bind_some]
  unfold exprTyM
  simp only []
  have hL : (typesM l xs).length ≤ 1000000 := by rw [typesM_len]; exact hl
  generalize typesM l xs = L at hL
  clear hr hl
  refine exI_split (fun h => ty1 k ty op off L hL h St0) fun h1 => ?_
  refine exI_split (fun h => ?_) fun h2 => ?_
  · obtain rfl : k = 2 := by simpa using h
    rw [show tyM 2 ty op off L = if (!(decide (L.length = 0) && (op == 0 && placesM ty off))) = true then 0 else ty from rfl]
    match L, hL with
    | [], _ =>
      simp only [len_nums (P_kt 135), Option.bind_some, openInt_v, splitB_if, spec136, mlb, ite_and, openHd_v, openBool_v, List.length_nil, mi]
      exact exI _ _
    | x :: r, hL =>
      have e1 : (((x :: r).length : Int) == 0) = false := by simp; omega
      simp only [len_nums (P_kt 135), Option.bind_some, openInt_v, splitB_if, e1]
      exact exI _ _
  refine exI_split (fun h => ?_) fun h3 => ?_
  · obtain rfl : k = 3 := by simpa using h
    rw [show tyM 3 ty op off L = if (!(decide (L.length = 1) && (unaryM op (L.headD 0) ty && wordM (op == 12) off))) = true then 0 else ty from rfl]
    match L, hL with
    | [], _ => exact exI _ _
    | [x], _ =>
      simp only [len_nums (P_kt 135), idx0 (P_kt 135), Option.bind_some, openInt_v, loadK_cp (P_kt 135), spec179, spec180, splitB_if, mlb, ite_and, openHd_v, openBool_v, List.length_singleton, List.headD_cons, mi]
      exact exI _ _
    | x :: y :: r, hl =>
      have e1 : (((x :: y :: r).length : Int) == 1) = false := by simp; omega
      have e2 : (decide ((x :: y :: r).length = 1)) = false := by simp
      simp only [len_nums (P_kt 135), Option.bind_some, openInt_v, splitB_if, e1, e2, Bool.false_and]
      exact exI _ _
  refine exI_split (fun h => ?_) fun h4 => ?_
  · obtain rfl : k = 4 := by simpa using h
    rw [show tyM 4 ty op off L = if (!(decide (L.length = 2) && (binaryM op L ty && wordM (op == 30) off))) = true then 0 else ty from rfl]
    have e1 : ((L.length : Int) == 2) = decide (L.length = 2) := by
      by_cases h : L.length = 2
      · simp [h]
      · have : ¬ (L.length : Int) = 2 := by omega
        simp [h, this]
    have hb : ∀ S, run kt (.func 181 [] []) [.v (.int .i64 op), nums L, .v (.int .i64 ty)] S = some (.v (.bool (binaryM op L ty)), S) := fun S => spec181 op L ty (by omega) S
    simp only [len_nums (P_kt 135), Option.bind_some, openInt_v, hb, spec180, splitB_if, e1, mlb, ite_and, openHd_v, openBool_v, mi]
    exact exI _ _
  have h76 : ∀ (id : Option Nat) (S : St) (a : Int), run kt (.func 76 [] []) [nums L, .sl id 1 [.v (.int .i64 a)]] S = some (.v (.bool (areM L [a])), S) := fun id S a => spec76 L [a] (by omega) S (nums_ws L) (own_ws id [a])
  have h139 : ∀ (n : Int) (S : St), run kt (.func 139 [] []) [nums L, .v (.int .i64 n)] S = some (.v (.bool (sameM L n)), S) := fun n S => spec139 L n (by omega) S (nums_ws L)
  refine exI_split (fun h => ?_) fun h5 => ?_
  · obtain rfl : k = 5 := by simpa using h
    rw [show tyM 5 ty op off L = if (!(areM L [32] && (storM ty && (op == 0 && off == 0)))) = true then 0 else ty from rfl]
    simp only [h76, spec137, Option.bind_some, openBool_v, splitB_if]
    cases areM L [32] <;> cases storM ty <;> cases (op == 0) <;> cases (off == 0) <;> exact exI _ _
  refine exI_split (fun h => ?_) fun h6 => ?_
  · obtain rfl : k = 6 := by simpa using h
    rw [show tyM 6 ty op off L = if (!(areM L [32] && (storM ty && (op == 0 && off == 0)))) = true then 0 else ty from rfl]
    simp only [h76, spec137, Option.bind_some, openBool_v, splitB_if]
    cases areM L [32] <;> cases storM ty <;> cases (op == 0) <;> cases (off == 0) <;> exact exI _ _
  refine exI_split (fun h => ?_) fun h9 => ?_
  · obtain rfl : k = 9 := by simpa using h
    rw [show tyM 9 ty op off L = if (!(areM L [32] && (storM ty && (op == 0 && off == 0)))) = true then 0 else 32 from rfl]
    simp only [h76, spec137, Option.bind_some, openBool_v, splitB_if]
    cases areM L [32] <;> cases storM ty <;> cases (op == 0) <;> cases (off == 0) <;> exact exI _ _
  refine exI_split (fun h => ?_) fun h7 => ?_
  · obtain rfl : k = 7 := by simpa using h
    rw [show tyM 7 ty op off L = if (!(decide (L.length = 3) && (L.headD 0 == 1 && (sameM L.tail 2 && (L.tail.headD 0 == ty && (op == 0 && off == 0)))))) = true then 0 else ty from rfl]
    match L, hL, h139 with
    | [], _, _ => exact exI _ _
    | [x], _, _ => exact exI _ _
    | [x, y], _, _ => exact exI _ _
    | [x, y, z], _, _ =>
      have h2 : ∀ (S : St), run kt (.func 139 [] []) [nums [y, z], .v (.int .i64 2)] S = some (.v (.bool (sameM [y, z] 2)), S) := fun S => spec139 [y, z] 2 (by simp) S (nums_ws _)
      have e3 : ((([x, y, z] : List Int).length : Int) == 3) = true := rfl
      simp only [len_nums (P_kt 135), idx0 (P_kt 135), idx1 (P_kt 135), slice1 (P_kt 135), h2, Option.bind_some, openInt_v, loadK_cp (P_kt 135), splitB_if, mlb, ite_and, openHd_v, openBool_v, List.headD_cons, List.tail_cons, e3, mi]
      exact exI _ _
    | x :: y :: z :: u :: r, hL, _ =>
      have e1 : (((x :: y :: z :: u :: r).length : Int) == 3) = false := by simp; omega
      have e2 : (decide ((x :: y :: z :: u :: r).length = 3)) = false := by simp
      simp only [len_nums (P_kt 135), Option.bind_some, openInt_v, splitB_if, e1, e2, Bool.false_and]
      exact exI _ _
  refine exI_split (fun h => ?_) fun h8 => ?_
  · obtain rfl : k = 8 := by simpa using h
    rw [show tyM 8 ty op off L = if (!((op == 1 || op == 2) && (sameM L (if op == 2 then 5 else 4) && (L.headD 0 == 32 && (ty == 32 && off == 0))))) = true then 0 else ty from rfl]
    have hnil : ∀ n : Int, 0 < n → sameM [] n = false := fun n hn => by
      have : ¬ (0 : Int) = n := by omega
      simp [sameM, this]
    by_cases ho : op = 2
    · subst ho
      match L, hL, h139 with
      | [], _, h139 =>
        simp only [h139, Option.bind_some, openBool_v, splitB_if, hnil 5 (by omega)]
        exact exI _ _
      | x :: r, _, h139 =>
        show ExI _ (if (!((2 == 1 || 2 == 2) && (sameM (x :: r) 5 && (x == 32 && (ty == 32 && off == 0))))) = true then 0 else ty)
        simp only [h139, idx0 (P_kt 135), load_cp (P_kt 135), Option.bind_some, openBool_v, openInt_v, splitB_if]
        cases sameM (x :: r) 5 <;> cases (x == 32) <;> cases (ty == 32) <;> cases (off == 0) <;> exact exI _ _
    · have ho2 : (op == 2) = false := by simpa using ho
      rw [ho2]
      match L, hL, h139 with
      | [], _, h139 =>
        simp only [h139, Option.bind_some, openBool_v, splitB_if, hnil 4 (by omega)]
        cases (op == 1) <;> exact exI _ _
      | x :: r, _, h139 =>
        show ExI _ (if (!((op == 1 || false) && (sameM (x :: r) 4 && (x == 32 && (ty == 32 && off == 0))))) = true then 0 else ty)
        simp only [h139, idx0 (P_kt 135), load_cp (P_kt 135), Option.bind_some, openBool_v, openInt_v, splitB_if]
        cases (op == 1) <;> cases sameM (x :: r) 4 <;> cases (x == 32) <;> cases (ty == 32) <;> cases (off == 0) <;> exact exI _ _
  have : tyM k ty op off L = 0 := by
    unfold tyM okM
    simp only [h1, h2, h3, h4, h5, h6, h7, h8, h9]
    rfl
  rw [this]
  exact exI _ _
end Go.Sv
end
