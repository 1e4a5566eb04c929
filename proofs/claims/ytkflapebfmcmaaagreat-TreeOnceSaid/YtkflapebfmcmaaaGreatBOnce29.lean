/- Parts of the proofs of this seat's laws. -/
import Derived.Test.YtkflapebfmcmaaaGreatBOnce27
import Derived.Test.YtkflapebfmcmaaaGreatBOnce28
section
namespace Go.Sv
open Go Go.Proofs
set_option linter.all false
set_option maxRecDepth 1000000
set_option maxHeartbeats 0
def h78 : H := { hh with live := fun b => match b with  | _ => [], keep := fun b => match b with | 12 => some [(45, 2)] | 50 => some [(4, 2)] | 79 => some [(4, 2)] | 119 => some [(4, 2)] | 143 => some [(4, 2)] | 173 => some [(4, 2)] | 219 => some [(4, 2)] | 244 => some [(277, 2)] | 278 => some [(4, 2)] | 297 => some [(4, 2)] | _ => none }
theorem tell78 (N : Nat) (n0 : Nat) (k0 : List SV) (u1 : T57) : cBody (kt.at 78) h78 (run kt) N (compF Tryz.f78) [.sl none n0 k0, .agg u1.enc] St0 = (run kt (.func 133 [] []) [(.sl none n0 k0), u1.l] St0).bind fun p0 => ((splitB (.v (.bool (u1.kind != (9 : Int))))
 ((splitB (.v (.bool (u1.jump != (0 : Int))))
 ((some [(.v (.bool true))]))
 ((splitB (.v (.bool (u1.to_ != (0 : Int))))
 ((some [(.v (.bool true))]))
 ((splitB (.v (.bool (u1.kind != (1 : Int))))
 ((splitB (.v (.bool (u1.addr != (0 : Int))))
 ((some [(.v (.bool true))]))
 ((splitB (.v (.bool (u1.kind != (2 : Int))))
 ((run kt (.func 134 [] []) [(.agg [(.v (.int .i64 u1.e_Kind)), (.v (.int .i64 u1.e_Ty)), (.v (.int .i64 u1.e_Op)), (.v (.int .i64 u1.e_Off)), u1.e_L])] p0.2).bind fun p1 => openBool p1.1 fun b2 => (some [(.v (.bool (!b2)))]))
 ((some [(.v (.bool false))]))))))
 ((splitB (.v (.bool (u1.kind != (2 : Int))))
 ((run kt (.func 134 [] []) [(.agg [(.v (.int .i64 u1.e_Kind)), (.v (.int .i64 u1.e_Ty)), (.v (.int .i64 u1.e_Op)), (.v (.int .i64 u1.e_Off)), u1.e_L])] p0.2).bind fun p3 => openBool p3.1 fun b4 => (some [(.v (.bool (!b4)))]))
 ((some [(.v (.bool false))]))))))))))
 ((splitB (.v (.bool (u1.kind != (1 : Int))))
 ((splitB (.v (.bool (u1.addr != (0 : Int))))
 ((some [(.v (.bool true))]))
 ((splitB (.v (.bool (u1.kind != (2 : Int))))
 ((run kt (.func 134 [] []) [(.agg [(.v (.int .i64 u1.e_Kind)), (.v (.int .i64 u1.e_Ty)), (.v (.int .i64 u1.e_Op)), (.v (.int .i64 u1.e_Off)), u1.e_L])] p0.2).bind fun p5 => openBool p5.1 fun b6 => (some [(.v (.bool (!b6)))]))
 ((some [(.v (.bool false))]))))))
 ((splitB (.v (.bool (u1.kind != (2 : Int))))
 ((run kt (.func 134 [] []) [(.agg [(.v (.int .i64 u1.e_Kind)), (.v (.int .i64 u1.e_Ty)), (.v (.int .i64 u1.e_Op)), (.v (.int .i64 u1.e_Off)), u1.e_L])] p0.2).bind fun p7 => openBool p7.1 fun b8 => (some [(.v (.bool (!b8)))]))
 ((some [(.v (.bool false))])))))))).bind fun vs9 => openHd vs9 fun y10 r11 => openBool y10 fun b12 => (splitB (.v (.bool b12))
 ((some ((.v (.bool false)), p0.2)))
 ((splitB (.v (.bool (u1.kind == (1 : Int))))
 (((lenE (kt.at 78) 22 p0.1).bind fun r13 => openInt r13 fun a14 => (splitB (.v (.bool (a14 == (0 : Int))))
 ((splitB (.v (.bool (u1.n == (4 : Int))))
 ((splitB (.v (.bool (u1.tmp == (0 : Int))))
 ((some [(.v (.bool (u1.off == (0 : Int))))]))
 ((some [(.v (.bool false))]))))
 ((splitB (.v (.bool (u1.n == (8 : Int))))
 ((splitB (.v (.bool (u1.tmp == (0 : Int))))
 ((some [(.v (.bool (u1.off == (0 : Int))))]))
 ((some [(.v (.bool false))]))))
 ((some [(.v (.bool false))]))))))
 ((some [(.v (.bool false))])))).bind fun vs15 => openHd vs15 fun y16 r17 => openBool y16 fun b18 => (some ((.v (.bool b18)), p0.2)))
 ((splitB (.v (.bool (u1.kind == (2 : Int))))
 ((run kt (.func 135 [] []) [(.sl none n0 k0), (.agg [(.v (.int .i64 u1.e_Kind)), (.v (.int .i64 u1.e_Ty)), (.v (.int .i64 u1.e_Op)), (.v (.int .i64 u1.e_Off)), u1.e_L])] p0.2).bind fun p19 => openInt p19.1 fun a20 => ((lenE (kt.at 78) 22 p0.1).bind fun r21 => openInt r21 fun a22 => (splitB (.v (.bool (a22 == (0 : Int))))
 ((splitB (.v (.bool (u1.n == (0 : Int))))
 ((splitB (.v (.bool (u1.off == (0 : Int))))
 ((splitB (.v (.bool (decide (u1.tmp ≥ (0 : Int)))))
 ((splitB (.v (.bool (decide (u1.tmp < ((n0 : Nat) : Int)))))
 ((splitB (.v (.bool (a20 != (0 : Int))))
 ((indexAddrE (kt.at 78) 22 (.sl none n0 k0) (.v (.int .i64 u1.tmp))).bind fun r23 => (loadE (kt.at 78) 3 r23 p19.2).bind fun r24 => openInt r24 fun a25 => (some [(.v (.bool (a25 == a20)))]))
 ((some [(.v (.bool false))]))))
 ((some [(.v (.bool false))]))))
 ((some [(.v (.bool false))]))))
 ((some [(.v (.bool false))]))))
 ((some [(.v (.bool false))]))))
 ((some [(.v (.bool false))])))).bind fun vs26 => openHd vs26 fun y27 r28 => openBool y27 fun b29 => (some ((.v (.bool b29)), p19.2)))
 ((splitB (.v (.bool (u1.kind == (3 : Int))))
 (((lenE (kt.at 78) 22 p0.1).bind fun r30 => openInt r30 fun a31 => (splitB (.v (.bool (a31 == (1 : Int))))
 ((splitB (.v (.bool (u1.tmp == (0 : Int))))
 ((splitB (.v (.bool (u1.n == (0 : Int))))
 ((indexAddrE (kt.at 78) 22 p0.1 (.v (.int .i64 (0 : Int)))).bind fun r32 => loadK (kt.at 78) (St.next p0.2) 3 r32 p0.2 fun r33 => openInt r33 fun a34 => (run kt (.func 136 [] []) [(.v (.int .i64 a34)), (.v (.int .i64 u1.off))] p0.2).bind fun p35 => openBool p35.1 fun b36 => (some [(.v (.bool b36))]))
 ((some [(.v (.bool false))]))))
 ((some [(.v (.bool false))]))))
 ((some [(.v (.bool false))])))).bind fun vs37 => openHd vs37 fun y38 r39 => openBool y38 fun b40 => (some ((.v (.bool b40)), p0.2)))
 ((splitB (.v (.bool (u1.kind == (4 : Int))))
 ((lenE (kt.at 78) 22 p0.1).bind fun r41 => openInt r41 fun a42 => (splitB (.v (.bool (a42 == (2 : Int))))
 ((indexAddrE (kt.at 78) 22 p0.1 (.v (.int .i64 (0 : Int)))).bind fun r43 => (loadE (kt.at 78) 3 r43 p0.2).bind fun r44 => openInt r44 fun a45 => (splitB (.v (.bool (a45 == (32 : Int))))
 ((indexAddrE (kt.at 78) 22 p0.1 (.v (.int .i64 (1 : Int)))).bind fun r46 => (loadE (kt.at 78) 3 r46 p0.2).bind fun r47 => openInt r47 fun a48 => (run kt (.func 137 [] []) [(.v (.int .i64 a48))] p0.2).bind fun p49 => openBool p49.1 fun b50 => (splitB (.v (.bool b50))
 ((run kt (.func 138 [] []) [(.sl (some (St.next p49.2)) 3 [(.v (.int .i64 u1.tmp)), (.v (.int .i64 u1.off)), (.v (.int .i64 u1.n))])] (St.alloc p49.2 (.own 1 3))).bind fun p51 => openBool p51.1 fun b52 => (some ((.v (.bool b52)), p51.2)))
 ((some ((.v (.bool false)), p49.2)))))
 ((some ((.v (.bool false)), p0.2)))))
 ((some ((.v (.bool false)), p0.2)))))
 ((splitB (.v (.bool (u1.kind == (6 : Int))))
 ((lenE (kt.at 78) 22 p0.1).bind fun r53 => openInt r53 fun a54 => (splitB (.v (.bool (a54 == (2 : Int))))
 ((indexAddrE (kt.at 78) 22 p0.1 (.v (.int .i64 (0 : Int)))).bind fun r55 => (loadE (kt.at 78) 3 r55 p0.2).bind fun r56 => openInt r56 fun a57 => (splitB (.v (.bool (a57 == (32 : Int))))
 ((indexAddrE (kt.at 78) 22 p0.1 (.v (.int .i64 (1 : Int)))).bind fun r58 => (loadE (kt.at 78) 3 r58 p0.2).bind fun r59 => openInt r59 fun a60 => (run kt (.func 137 [] []) [(.v (.int .i64 a60))] p0.2).bind fun p61 => openBool p61.1 fun b62 => (splitB (.v (.bool b62))
 ((run kt (.func 138 [] []) [(.sl (some (St.next p61.2)) 3 [(.v (.int .i64 u1.tmp)), (.v (.int .i64 u1.off)), (.v (.int .i64 u1.n))])] (St.alloc p61.2 (.own 1 3))).bind fun p63 => openBool p63.1 fun b64 => (some ((.v (.bool b64)), p63.2)))
 ((some ((.v (.bool false)), p61.2)))))
 ((some ((.v (.bool false)), p0.2)))))
 ((some ((.v (.bool false)), p0.2)))))
 ((splitB (.v (.bool (u1.kind == (5 : Int))))
 ((splitB (.v (.bool (u1.off == (0 : Int))))
 (((run kt (.func 139 [] []) [p0.1, (.v (.int .i64 (3 : Int)))] p0.2).bind fun p65 => openBool p65.1 fun b66 => (splitB (.v (.bool b66))
 ((indexAddrE (kt.at 78) 22 p0.1 (.v (.int .i64 (0 : Int)))).bind fun r67 => (loadE (kt.at 78) 3 r67 p65.2).bind fun r68 => openInt r68 fun a69 => (splitB (.v (.bool (a69 == (32 : Int))))
 ((splitB (.v (.bool (decide (u1.off ≥ (0 : Int)))))
 ((splitB (.v (.bool (decide (u1.off ≤ (2 : Int)))))
 ((splitB (.v (.bool (u1.n == (0 : Int))))
 ((splitB (.v (.bool (decide (u1.tmp ≥ (0 : Int)))))
 ((splitB (.v (.bool (decide (u1.tmp < ((n0 : Nat) : Int)))))
 ((indexAddrE (kt.at 78) 22 (.sl none n0 k0) (.v (.int .i64 u1.tmp))).bind fun r70 => (loadE (kt.at 78) 3 r70 p65.2).bind fun r71 => openInt r71 fun a72 => (some [(.v (.bool (a72 == (32 : Int))))]))
 ((some [(.v (.bool false))]))))
 ((some [(.v (.bool false))]))))
 ((some [(.v (.bool false))]))))
 ((some [(.v (.bool false))]))))
 ((some [(.v (.bool false))]))))
 ((some [(.v (.bool false))]))))
 ((some [(.v (.bool false))])))).bind fun vs73 => openHd vs73 fun y74 r75 => openBool y74 fun b76 => (some ((.v (.bool b76)), p0.2)))
 (((run kt (.func 139 [] []) [p0.1, (.v (.int .i64 (2 : Int)))] p0.2).bind fun p77 => openBool p77.1 fun b78 => (splitB (.v (.bool b78))
 ((indexAddrE (kt.at 78) 22 p0.1 (.v (.int .i64 (0 : Int)))).bind fun r79 => (loadE (kt.at 78) 3 r79 p77.2).bind fun r80 => openInt r80 fun a81 => (splitB (.v (.bool (a81 == (32 : Int))))
 ((splitB (.v (.bool (decide (u1.off ≥ (0 : Int)))))
 ((splitB (.v (.bool (decide (u1.off ≤ (2 : Int)))))
 ((splitB (.v (.bool (u1.n == (0 : Int))))
 ((splitB (.v (.bool (decide (u1.tmp ≥ (0 : Int)))))
 ((splitB (.v (.bool (decide (u1.tmp < ((n0 : Nat) : Int)))))
 ((indexAddrE (kt.at 78) 22 (.sl none n0 k0) (.v (.int .i64 u1.tmp))).bind fun r82 => (loadE (kt.at 78) 3 r82 p77.2).bind fun r83 => openInt r83 fun a84 => (some [(.v (.bool (a84 == (32 : Int))))]))
 ((some [(.v (.bool false))]))))
 ((some [(.v (.bool false))]))))
 ((some [(.v (.bool false))]))))
 ((some [(.v (.bool false))]))))
 ((some [(.v (.bool false))]))))
 ((some [(.v (.bool false))]))))
 ((some [(.v (.bool false))])))).bind fun vs85 => openHd vs85 fun y86 r87 => openBool y86 fun b88 => (some ((.v (.bool b88)), p0.2)))))
 ((splitB (.v (.bool (u1.kind == (7 : Int))))
 ((run kt (.func 76 [] []) [p0.1, (.sl (some (St.next p0.2)) 2 [(.v (.int .i64 (32 : Int))), (.v (.int .i64 (32 : Int)))])] (St.alloc p0.2 (.own 1 2))).bind fun p89 => openBool p89.1 fun b90 => (splitB (.v (.bool b90))
 ((splitB (.v (.bool (decide (u1.n ≥ (1 : Int)))))
 ((splitB (.v (.bool (decide (u1.n ≤ (16 : Int)))))
 ((splitB (.v (.bool (u1.tmp == (0 : Int))))
 ((some ((.v (.bool (u1.off == (0 : Int)))), p89.2)))
 ((some ((.v (.bool false)), p89.2)))))
 ((some ((.v (.bool false)), p89.2)))))
 ((some ((.v (.bool false)), p89.2)))))
 ((some ((.v (.bool false)), p89.2)))))
 ((splitB (.v (.bool (u1.kind == (8 : Int))))
 (((lenE (kt.at 78) 22 p0.1).bind fun r91 => openInt r91 fun a92 => (splitB (.v (.bool (decide (a92 < (1 : Int)))))
 ((some [(.v (.bool true))]))
 ((lenE (kt.at 78) 22 p0.1).bind fun r93 => openInt r93 fun a94 => (splitB (.v (.bool (decide (a94 > (9 : Int)))))
 ((some [(.v (.bool true))]))
 ((indexAddrE (kt.at 78) 22 p0.1 (.v (.int .i64 (0 : Int)))).bind fun r95 => (loadE (kt.at 78) 3 r95 p0.2).bind fun r96 => openInt r96 fun a97 => (splitB (.v (.bool (a97 != (1 : Int))))
 ((some [(.v (.bool true))]))
 ((splitB (.v (.bool (decide (u1.n < (0 : Int)))))
 ((some [(.v (.bool true))]))
 ((splitB (.v (.bool (decide (u1.n > (1000000 : Int)))))
 ((some [(.v (.bool true))]))
 ((splitB (.v (.bool (u1.tmp != (0 : Int))))
 ((some [(.v (.bool true))]))
 ((some [(.v (.bool (u1.off != (0 : Int))))])))))))))))))).bind fun vs98 => openHd vs98 fun y99 r100 => openBool y99 fun b101 => (splitB (.v (.bool b101))
 ((some ((.v (.bool false)), p0.2)))
 (((lenE (kt.at 78) 22 p0.1).bind fun r102 => openInt r102 fun a103 => (splitB (.v (.bool (a103 == (1 : Int))))
 ((some [(.v (.bool true))]))
 ((sliceE (kt.at 78) 22 p0.1 (some (.v (.int .i64 (1 : Int)))) none).bind fun r104 => (lenE (kt.at 78) 22 p0.1).bind fun r105 => openInt r105 fun a106 => (run kt (.func 139 [] []) [r104, (.v (.int .i64 (IntKind.wrap .i64 (a106 - (1 : Int)))))] p0.2).bind fun p107 => openBool p107.1 fun b108 => (splitB (.v (.bool b108))
 ((indexAddrE (kt.at 78) 22 p0.1 (.v (.int .i64 (1 : Int)))).bind fun r109 => (loadE (kt.at 78) 3 r109 p107.2).bind fun r110 => openInt r110 fun a111 => (some [(.v (.bool (a111 == (32 : Int))))]))
 ((some [(.v (.bool false))])))))).bind fun vs112 => openHd vs112 fun y113 r114 => openBool y113 fun b115 => (some ((.v (.bool b115)), p0.2)))))
 ((splitB (.v (.bool (u1.kind == (9 : Int))))
 ((run kt (.func 76 [] []) [p0.1, (.sl (some (St.next p0.2)) 1 [(.v (.int .i64 (1 : Int)))])] (St.alloc p0.2 (.own 1 1))).bind fun p116 => openBool p116.1 fun b117 => (splitB (.v (.bool b117))
 ((splitB (.v (.bool (decide (u1.jump ≥ (1 : Int)))))
 ((splitB (.v (.bool (decide (u1.jump ≤ (9 : Int)))))
 ((run kt (.func 138 [] []) [(.sl (some (St.next p116.2)) 3 [(.v (.int .i64 u1.tmp)), (.v (.int .i64 u1.off)), (.v (.int .i64 u1.n))])] (St.alloc p116.2 (.own 1 3))).bind fun p118 => openBool p118.1 fun b119 => (some ((.v (.bool b119)), p118.2)))
 ((some ((.v (.bool false)), p116.2)))))
 ((some ((.v (.bool false)), p116.2)))))
 ((some ((.v (.bool false)), p116.2)))))
 ((some ((.v (.bool false)), p0.2)))))))))))))))))))))) := by kernel_rfl
theorem fn78 : fnsK 78 = some (compF Tryz.f78) := by kernel_rfl
def h23 : H := { hh with live := fun b => match b with | 0 => [(2, 1), (3, 1)] | 2 => [(2, 1), (4, 1)] | 4 => [(2, 1), (6, 1)] | 6 => [(2, 1), (9, 1)] | _ => [], keep := fun b => match b with | 11 => some [(26, 2)] | 48 => some [(63, 2)] | 112 => some [(142, 2)] | _ => none }
theorem tell23 (N : Nat) (u0 : T31) : cBody (kt.at 23) h23 (run kt) N (compF Tryz.f23) [.agg u0.enc] St0 = ((lenE (kt.at 23) 22 u0.tmps).bind fun r0 => openInt r0 fun a1 => (splitB (.v (.bool (decide (a1 > (4000 : Int)))))
 ((some [(.v (.bool true))]))
 ((lenE (kt.at 23) 23 u0.l).bind fun r2 => openInt r2 fun a3 => (splitB (.v (.bool (decide (a3 > (2000 : Int)))))
 ((some [(.v (.bool true))]))
 ((lenE (kt.at 23) 29 u0.spans).bind fun r4 => openInt r4 fun a5 => (some [(.v (.bool (decide (a5 > (100 : Int)))))])))))).bind fun vs6 => openHd vs6 fun y7 r8 => openBool y7 fun b9 => (splitB (.v (.bool b9))
 ((some ((.v (.int .i64 (7 : Int))), St0)))
 ((iter (fun vs10 S11 => openHd vs10 fun y12 r13 => openInt y12 fun a14 => openHd r13 fun y15 r16 => openInt y15 fun a17 => (lenE (kt.at 23) 22 u0.tmps).bind fun r18 => openInt r18 fun a19 => (splitB (.v (.bool (decide (a17 < a19))))
 ((indexAddrE (kt.at 23) 22 u0.tmps (.v (.int .i64 a17))).bind fun r20 => (loadE (kt.at 23) 3 r20 S11).bind fun r21 => openInt r21 fun a22 => (run kt (.func 77 [] []) [(.v (.int .i64 a22))] S11).bind fun p23 => openInt p23.1 fun a24 => (splitB (.v (.bool (a24 == (0 : Int))))
 ((some (.ret, ([(.v (.int .i64 (7 : Int))), (.v (.int .i64 a17))], p23.2))))
 ((some (.normal, ([(.v (.int .i64 a14)), (.v (.int .i64 (IntKind.wrap .i64 (a17 + (1 : Int)))))], p23.2))))))
 ((some ((.exit 0), ([(.v (.int .i64 a14)), (.v (.int .i64 a17))], S11)))))) N [(.v (.int .i64 (0 : Int))), (.v (.int .i64 (0 : Int)))] St0).bind fun q25 => openHd q25.2.1 fun y26 r27 => openInt y26 fun a28 => openHd r27 fun y29 r30 => openInt y29 fun a31 => (exits q25.1 (fun i32 => (if i32 = 0 then (iter (fun vs33 S34 => openHd vs33 fun y35 r36 => openInt y35 fun a37 => openHd r36 fun y38 r39 => openInt y38 fun a40 => (lenE (kt.at 23) 29 u0.spans).bind fun r41 => openInt r41 fun a42 => (splitB (.v (.bool (decide (a40 < a42))))
 (((indexAddrE (kt.at 23) 29 u0.spans (.v (.int .i64 a40))).bind fun r43 => openCp cd108 r43 fun t44 => (splitB (.v (.bool (decide (t44.n < (1 : Int)))))
 ((some [(.v (.bool true))]))
 ((indexAddrE (kt.at 23) 29 u0.spans (.v (.int .i64 a40))).bind fun r45 => openCp cd108 r45 fun t46 => (some [(.v (.bool (decide (t46.n > (65536 : Int)))))])))).bind fun vs47 => openHd vs47 fun y48 r49 => openBool y48 fun b50 => (splitB (.v (.bool b50))
 ((some (.ret, ([(.v (.int .i64 (7 : Int))), (.v (.int .i64 a40))], S34))))
 ((some (.normal, ([(.v (.int .i64 a37)), (.v (.int .i64 (IntKind.wrap .i64 (a40 + (1 : Int)))))], S34))))))
 ((some ((.exit 2), ([(.v (.int .i64 a37)), (.v (.int .i64 a40))], S34)))))) N [(.v (.int .i64 a28)), (.v (.int .i64 (0 : Int)))] q25.2.2).bind fun q51 => openHd q51.2.1 fun y52 r53 => openInt y52 fun a54 => openHd r53 fun y55 r56 => openInt y55 fun a57 => (exits q51.1 (fun i58 => (if i58 = 2 then (lenE (kt.at 23) 22 u0.tmps).bind fun r59 => openInt r59 fun a60 => (makeSliceE (kt.at 23) 124 (.v (.int .i64 a60)) (.v (.int .i64 a60)) q51.2.2).bind fun p61 => (iter (fun vs62 S63 => openHd vs62 fun y64 r65 => openInt y64 fun a66 => openHd r65 fun y67 r68 => openInt y67 fun a69 => (lenE (kt.at 23) 23 u0.l).bind fun r70 => openInt r70 fun a71 => (splitB (.v (.bool (decide (a69 < a71))))
 ((indexAddrE (kt.at 23) 23 u0.l (.v (.int .i64 a69))).bind fun r72 => openCp cd57 r72 fun t73 => storeK (kt.at 23) 57 (.ptr (St.next S63) 0) (.agg t73.enc) (St.alloc S63 (.cells [(.v (.int .i64 (0 : Int))), (.v (.int .i64 (0 : Int))), (.v (.int .i64 (0 : Int))), (.v (.int .i64 (0 : Int))), (.v (.int .i64 (0 : Int))), (.v (.int .u32 (0 : Int))), (.v (.int .u32 (0 : Int))), (.v (.int .i64 (0 : Int))), (.v (.int .i64 (0 : Int))), (.v (.int .i64 (0 : Int))), (.v (.int .i64 (0 : Int))), (.v (.slice none 0 0)), (.v (.slice none 0 0))])) fun S74 => (loadE (kt.at 23) 57 (.ptr (St.next S63) 0) S74).bind fun r75 => openAgg cd57 r75 fun t76 => (run kt (.func 78 [] []) [u0.tmps, (.agg t76.enc)] S74).bind fun p77 => openBool p77.1 fun b78 => (splitB (.v (.bool (!b78)))
 ((some (.ret, ([(.v (.int .i64 (7 : Int))), (.v (.int .i64 a69))], p77.2))))
 ((loadE (kt.at 23) 57 (.ptr (St.next S63) 0) p77.2).bind fun r79 => openAgg cd57 r79 fun t80 => (run kt (.func 79 [] []) [(.agg t80.enc)] p77.2).bind fun p81 => (iter (fun vs82 S83 => openHd vs82 fun y84 r85 => openInt y84 fun a86 => openHd r85 fun y87 r88 => openInt y87 fun a89 => (lenE (kt.at 23) 22 p81.1).bind fun r90 => openInt r90 fun a91 => (splitB (.v (.bool (decide (a89 < a91))))
 ((indexAddrE (kt.at 23) 22 p81.1 (.v (.int .i64 a89))).bind fun r92 => (loadE (kt.at 23) 3 r92 S83).bind fun r93 => openInt r93 fun a94 => (indexAddrE (kt.at 23) 124 p61.1 (.v (.int .i64 a94))).bind fun r95 => (loadE (kt.at 23) 4 r95 S83).bind fun r96 => openBool r96 fun b97 => (splitB (.v (.bool (!b97)))
 ((some (.ret, ([(.v (.int .i64 (7 : Int))), (.v (.int .i64 a89))], S83))))
 ((some (.normal, ([(.v (.int .i64 a86)), (.v (.int .i64 (IntKind.wrap .i64 (a89 + (1 : Int)))))], S83))))))
 ((some ((.exit 6), ([(.v (.int .i64 a86)), (.v (.int .i64 a89))], S83)))))) N [(.v (.int .i64 a66)), (.v (.int .i64 (0 : Int)))] p81.2).bind fun q98 => openHd q98.2.1 fun y99 r100 => openInt y99 fun a101 => openHd r100 fun y102 r103 => openInt y102 fun a104 => (exits q98.1 (fun i105 => (if i105 = 6 then (loadE (kt.at 23) 57 (.ptr (St.next S63) 0) q98.2.2).bind fun r106 => openAgg cd57 r106 fun t107 => (run kt (.func 80 [] []) [(.agg t107.enc)] q98.2.2).bind fun p108 => openInt p108.1 fun a109 => (splitB (.v (.bool (decide (a109 ≥ (0 : Int)))))
 ((indexAddrE (kt.at 23) 124 p61.1 (.v (.int .i64 a109))).bind fun r110 => (loadE (kt.at 23) 4 r110 p108.2).bind fun r111 => openBool r111 fun b112 => (splitB (.v (.bool b112))
 ((some (.ret, ([(.v (.int .i64 (7 : Int))), (.v (.int .i64 a69))], p108.2))))
 ((indexAddrE (kt.at 23) 124 p61.1 (.v (.int .i64 a109))).bind fun r113 => storeK (kt.at 23) 4 r113 (.v (.bool true)) p108.2 fun S114 => (some (.normal, ([(.v (.int .i64 a101)), (.v (.int .i64 (IntKind.wrap .i64 (a69 + (1 : Int)))))], S114))))))
 ((some (.normal, ([(.v (.int .i64 a101)), (.v (.int .i64 (IntKind.wrap .i64 (a69 + (1 : Int)))))], p108.2))))) else (if i105 = 5 then (some (.normal, ([(.v (.int .i64 a101)), (.v (.int .i64 (IntKind.wrap .i64 (a69 + (1 : Int)))))], q98.2.2))) else (some ((.exit i105), ([(.v (.int .i64 a101)), (.v (.int .i64 a69))], q98.2.2)))))) ((some (.ret, ([(.v (.int .i64 a101)), (.v (.int .i64 a69))], q98.2.2))))))))
 ((some ((.exit 4), ([(.v (.int .i64 a66)), (.v (.int .i64 a69))], S63)))))) N [(.v (.int .i64 a54)), (.v (.int .i64 (0 : Int)))] p61.2).bind fun q115 => openHd q115.2.1 fun y116 r117 => openInt y116 fun a118 => openHd r117 fun y119 r120 => openInt y119 fun a121 => (exits q115.1 (fun i122 => (if i122 = 4 then ((run kt (.func 81 [] []) [u0.tmps, (.agg [(.v (.int .i64 u0.next_Tmp)), (.v (.int .i64 u0.next_Ty)), (.v (.int .u32 u0.next_C0)), (.v (.int .u32 u0.next_C1)), (.v (.int .u32 u0.next_C2)), (.v (.int .u32 u0.next_C3))])] q115.2.2).bind fun p123 => openInt p123.1 fun a124 => (splitB (.v (.bool (a124 != (32 : Int))))
 ((some [(.v (.bool true))]))
 ((splitB (.v (.bool (decide (u0.next_Tmp ≥ (0 : Int)))))
 ((indexAddrE (kt.at 23) 124 p61.1 (.v (.int .i64 u0.next_Tmp))).bind fun r125 => (loadE (kt.at 23) 4 r125 p123.2).bind fun r126 => openBool r126 fun b127 => (splitB (.v (.bool (!b127)))
 ((some [(.v (.bool true))]))
 ((splitB (.v (.bool (decide (u0.jump < (1 : Int)))))
 ((some [(.v (.bool true))]))
 ((some [(.v (.bool (decide (u0.jump > (9 : Int)))))]))))))
 ((splitB (.v (.bool (decide (u0.jump < (1 : Int)))))
 ((some [(.v (.bool true))]))
 ((some [(.v (.bool (decide (u0.jump > (9 : Int)))))])))))))).bind fun vs128 => openHd vs128 fun y129 r130 => openBool y129 fun b131 => (splitB (.v (.bool b131))
 ((some ((.v (.int .i64 (7 : Int))), q115.2.2)))
 ((some ((.v (.int .i64 (0 : Int))), q115.2.2)))) else none)) ((some ((.v (.int .i64 a118)), q115.2.2)))) else none)) ((some ((.v (.int .i64 a54)), q51.2.2)))) else none)) ((some ((.v (.int .i64 a28)), q25.2.2)))))) := by kernel_rfl
theorem fn23 : fnsK 23 = some (compF Tryz.f23) := by kernel_rfl
end Go.Sv
end
section
namespace Go.Sv
open Go Go.Proofs Go.Proofs.YtkflapebfmcmaaaGreat
set_option linter.all false
set_option maxRecDepth 100000

/-- A list of numbers that grows by append. -/
def AccN (l : List Int) (y : SV) (S : St) : Prop := Acc 1 l.length (l.flatMap (ic .i64)) y S ∧ S.floor = 0
theorem accN0 {S : St} (h : S.floor = 0) : AccN [] (.v (.slice none 0 0)) S := ⟨acc0 1 (by omega), h⟩
theorem accN_append {k : K} (hP : k.P = Tryz.prog) (hb : bytes? k 3 = some 8) (hz : zero? k 3 = some [.v (.int .i64 0)]) (hbx : k.inBox 3 ≠ 1) {l : List Int} {y : SV} {S : St} (h : AccN l y S) (x : Int) (hl : l.length ≤ 1000000) :
    ∃ y' S', appendE k 22 y (.sl (some S.next) 1 [.v (.int .i64 x)]) (S.alloc (.own 1 1)) = some (y', S') ∧ AccN (l ++ [x]) y' S' := by
  obtain ⟨y', S', h1, h2, h3, _⟩ := append_acc (elem_of hP Tryz.underlying22) (size_of hP size3) hb hz (by decide) (by decide) rfl hbx h.1 (x := ic .i64 x) rfl (by simp only [room]; omega)
  refine ⟨y', S', h1, ?_, h3.trans h.2⟩
  rw [List.length_append, List.flatMap_append]
  simpa using h2
theorem accN_erase {l : List Int} {y : SV} {S : St} (h : AccN l y S) (S2 : St) : erase S2 y = nums l := by
  rw [acc_erase h.1, eraseL_nums]; rfl

def insStep (n : Int) (b : List Int × Bool) (x : Int) : List Int × Bool :=
  if !b.2 && decide (x ≥ n) then ((if x > n then b.1 ++ [n] else b.1) ++ [x], true) else (b.1 ++ [x], b.2)
def insertM (l : List Int) (n : Int) : List Int :=
  let b := l.foldl (insStep n) ([], false)
  if b.2 then b.1 else b.1 ++ [n]

theorem bytes140 : bytes? (kt.at 140) 3 = some 8 := by kernel_rfl
theorem zero140 : zero? (kt.at 140) 3 = some [.v (.int .i64 0)] := by kernel_rfl
theorem insStep_len (n : Int) (b : List Int × Bool) (x : Int) : (insStep n b x).1.length ≤ b.1.length + 2 := by
  unfold insStep
  split
  · split <;> simp
  · simp

set_option maxHeartbeats 1000000 in
theorem spec140 (l : List Int) (n : Int) (hl : l.length ≤ 400000) (S : St) {x : SV} (hx : weak (shut x) = nums l) : run kt (.func 140 [] []) [x, .v (.int .i64 n)] S = some (nums (insertM l n), S) := by
  suffices ∃ y S2, cBody (kt.at 140) h140 (run kt) (l.length + 1) (compF Tryz.f140) [nums l, .v (.int .i64 n)] St0 = some (y, S2) ∧ erase S2 y = nums (insertM l n) by
    obtain ⟨y, S2, h1, h2⟩ := this
    have := go_closed ks_kt (f := 140) (fst := []) (cap := []) (args := [x, .v (.int .i64 n)]) (S := S) h140 (l.length + 1) rfl (fn_kt 140 fn140) rfl (z := (y, S2)) (by
      simp only [List.nil_append, List.append_nil, List.map_cons, List.map_nil, hx, int_ws]
      exact h1)
    rw [h2] at this
    exact this
  have e := tell140 (l.length + 1) l.length (l.flatMap (ic .i64)) n
  rw [show SV.sl none l.length (l.flatMap (ic .i64)) = nums l from rfl] at e
  rw [e]
  clear e
  simp only [splitB_dec]
  simp only [splitB_if]
  generalize hF : (fun vs0 S1 => _ : List SV → St → Option (Ex × List SV × St)) = F
  have app : ∀ {l : List Int} {y : SV} {S : St}, AccN l y S → ∀ x : Int, l.length ≤ 1000000 → ∃ y' S', appendE (kt.at 140) 22 y (.sl (some S.next) 1 [.v (.int .i64 x)]) (S.alloc (.own 1 1)) = some (y', S') ∧ AccN (l ++ [x]) y' S' := fun h x hl => accN_append (P_kt 140) bytes140 zero140 (by decide) h x hl
  have loop : ∀ (suf : List Int) (i : Nat), l.drop i = suf → i ≤ l.length → ∀ (b : List Int × Bool) (y : SV) (S : St) (M : Nat), AccN b.1 y S → b.1.length ≤ 2 * i → suf.length < M →
      ∃ y' S', iter F M [y, .v (.bool b.2), .v (.int .i64 (i : Int))] S = some (.exit 0, [y', .v (.bool (suf.foldl (insStep n) b).2), .v (.int .i64 (l.length : Int))], S') ∧ AccN (suf.foldl (insStep n) b).1 y' S' ∧ (suf.foldl (insStep n) b).1.length ≤ 2 * l.length := by
    intro suf
    induction suf with
    | nil =>
      intro i hd hi b y S M hA hb hM
      obtain ⟨M, rfl⟩ : ∃ m, M = m + 1 := ⟨M - 1, by have : 0 < M := hM; omega⟩
      have h1 : l.length ≤ i := by
        have := congrArg List.length hd
        simp at this
        omega
      obtain rfl : i = l.length := by omega
      refine ⟨y, S, iter_exit ?_, hA, hb⟩
      rw [← hF]
      simp only [openHd_v, openBool_v, openInt_v]
      rw [if_neg (by omega)]
      rfl
    | cons x r ih =>
      intro i hd hi b y S M hA hb hM
      obtain ⟨M, rfl⟩ : ∃ m, M = m + 1 := ⟨M - 1, by rw [List.length_cons] at hM; omega⟩
      have hlt : i < l.length := by
        have := congrArg List.length hd
        simp at this
        omega
      have hx : l[i] = x := by
        have := congrArg (fun z => z[0]?) hd
        simp [hlt] at this
        exact this
      have hdr : l.drop (i + 1) = r := by
        have := congrArg List.tail hd
        simpa using this
      have ix := index_nums (P_kt 140) .i64 l i hlt
      rw [hx] at ix
      have step : ∃ y' S', F [y, .v (.bool b.2), .v (.int .i64 (i : Int))] S = some (.normal, [y', .v (.bool (insStep n b x).2), .v (.int .i64 ((i + 1 : Nat) : Int))], S') ∧ AccN (insStep n b x).1 y' S' := by
        rw [← hF]
        simp only [openHd_v, openBool_v, openInt_v]
        rw [if_pos (by omega), wrap_in (by omega) (by omega)]
        simp only [ix, Option.bind_some, load_cp (P_kt 140), openInt_v, mlb, ite_and, openHd_v, openBool_v]
        unfold insStep
        by_cases hc : (!b.2 && decide (x ≥ n)) = true
        · rw [if_pos hc, if_pos hc]
          by_cases hg : x > n
          · obtain ⟨y1, S1, g1, g2⟩ := app hA n (by omega)
            obtain ⟨y2, S2, g3, g4⟩ := app g2 x (by simp; omega)
            refine ⟨y2, S2, ?_, ?_⟩
            · rw [if_pos hg]
              simp only [g1, g3, Option.bind_some]
              rfl
            · rw [if_pos hg]; exact g4
          · obtain ⟨y1, S1, g1, g2⟩ := app hA x (by omega)
            refine ⟨y1, S1, ?_, ?_⟩
            · rw [if_neg hg]
              simp only [g1, Option.bind_some]
              rfl
            · rw [if_neg hg]; exact g2
        · rw [if_neg hc, if_neg hc]
          obtain ⟨y1, S1, g1, g2⟩ := app hA x (by omega)
          refine ⟨y1, S1, ?_, g2⟩
          simp only [g1, Option.bind_some]
          rfl
      obtain ⟨y1, S1, h1, h2⟩ := step
      obtain ⟨y2, S2, h3, h4, h5⟩ := ih (i + 1) hdr hlt (insStep n b x) y1 S1 M h2 (by have := insStep_len n b x; omega) (by simpa using hM)
      exact ⟨y2, S2, by rw [iter_normal h1]; exact h3, h4, h5⟩
  obtain ⟨y, S2, h1, h2, h3⟩ := loop l 0 rfl (by omega) ([], false) (.v (.slice none 0 0)) St0 (l.length + 1) (accN0 rfl) (by simp) (by omega)
  have h1 : iter F (l.length + 1) [.v (.slice none 0 0), .v (.bool false), .v (.int .i64 0)] St0 = _ := h1
  rw [h1]
  simp only [Option.bind_some, openHd_v, openBool_v, openInt_v, exits_exit, if_true]
  cases hd : (l.foldl (insStep n) ([], false)).2 with
  | true =>
    have e1 : insertM l n = (l.foldl (insStep n) ([], false)).1 := by unfold insertM; simp [hd]
    rw [e1]
    exact ⟨y, S2, rfl, accN_erase h2 S2⟩
  | false =>
    obtain ⟨y', S', h4, h5⟩ := app h2 n (by omega)
    have e1 : insertM l n = (l.foldl (insStep n) ([], false)).1 ++ [n] := by unfold insertM; simp [hd]
    rw [e1]
    refine ⟨y', S', ?_, accN_erase h5 S'⟩
    simp [h4]

theorem insStep_mem (n : Int) (b : List Int × Bool) (y : Int) (hP : b.2 = true → n ∈ b.1) : ((insStep n b y).2 = true → n ∈ (insStep n b y).1) ∧ ∀ x, (x ∈ (insStep n b y).1 ∨ x = n) ↔ (x ∈ b.1 ∨ x = y ∨ x = n) := by
  unfold insStep
  by_cases hc : (!b.2 && decide (y ≥ n)) = true
  · rw [if_pos hc]
    have hy : y ≥ n := by simp at hc; exact hc.2
    by_cases hg : y > n
    · rw [if_pos hg]
      refine ⟨fun _ => by simp, fun x => ?_⟩
      simp only [List.mem_append, List.mem_singleton]
      constructor
      · rintro (((h | h) | h) | h) <;> simp [h]
      · rintro (h | h | h) <;> simp [h]
    · rw [if_neg hg]
      obtain rfl : y = n := by omega
      refine ⟨fun _ => by simp, fun x => ?_⟩
      simp only [List.mem_append, List.mem_singleton]
      constructor
      · rintro ((h | h) | h) <;> simp [h]
      · rintro (h | h | h) <;> simp [h]
  · rw [if_neg hc]
    refine ⟨fun h => by simp [hP h], fun x => ?_⟩
    simp only [List.mem_append, List.mem_singleton]
    constructor
    · rintro ((h | h) | h) <;> simp [h]
    · rintro (h | h | h) <;> simp [h]
theorem insFold_mem (n : Int) : ∀ (l : List Int) (b : List Int × Bool), (b.2 = true → n ∈ b.1) → ((l.foldl (insStep n) b).2 = true → n ∈ (l.foldl (insStep n) b).1) ∧ ∀ x, (x ∈ (l.foldl (insStep n) b).1 ∨ x = n) ↔ (x ∈ b.1 ∨ x ∈ l ∨ x = n)
  | [], b, h => ⟨h, fun x => by simp⟩
  | y :: r, b, h => by
    obtain ⟨h1, h2⟩ := insStep_mem n b y h
    obtain ⟨h3, h4⟩ := insFold_mem n r (insStep n b y) h1
    refine ⟨h3, fun x => ?_⟩
    rw [List.foldl_cons, h4 x]
    have := h2 x
    simp only [List.mem_cons]
    constructor
    · rintro (h | h | h)
      · rcases this.1 (.inl h) with h | h | h <;> simp [h]
      · simp [h]
      · simp [h]
    · rintro (h | (h | h) | h)
      · rcases this.2 (.inl h) with h | h <;> simp [h]
      · rcases this.2 (.inr (.inl h)) with h | h <;> simp [h]
      · simp [h]
      · simp [h]
theorem mem_insertM (l : List Int) (n x : Int) : x ∈ insertM l n ↔ x = n ∨ x ∈ l := by
  obtain ⟨h1, h2⟩ := insFold_mem n l ([], false) (by simp)
  have h2 := h2 x
  cases hd : (l.foldl (insStep n) ([], false)).2 with
  | true =>
    have e1 : insertM l n = (l.foldl (insStep n) ([], false)).1 := by unfold insertM; simp [hd]
    rw [e1]
    have := h1 hd
    constructor
    · intro h
      rcases h2.1 (.inl h) with h | h | h
      · simp at h
      · exact .inr h
      · exact .inl h
    · rintro (h | h)
      · rw [h]; exact this
      · rcases h2.2 (.inr (.inl h)) with h | h
        · exact h
        · rw [h]; exact this
  | false =>
    have e1 : insertM l n = (l.foldl (insStep n) ([], false)).1 ++ [n] := by unfold insertM; simp [hd]
    rw [e1]
    simp only [List.mem_append, List.mem_singleton]
    constructor
    · rintro (h | h)
      · rcases h2.1 (.inl h) with h | h | h
        · simp at h
        · exact .inr h
        · exact .inl h
      · exact .inl h
    · rintro (h | h)
      · exact .inr h
      · rcases h2.2 (.inr (.inl h)) with h | h
        · exact .inl h
        · exact .inr h
end Go.Sv
end
section
namespace Go.Sv
open Go Go.Proofs Go.Proofs.YtkflapebfmcmaaaGreat
set_option linter.all false
set_option maxRecDepth 100000

/-! How many atoms a block has. -/
def sumA (l : List Stmt) : Nat := (l.map fun s => s.l.length + s.e.l.length).sum
theorem sumA_cons (s : Stmt) (l : List Stmt) : sumA (s :: l) = s.l.length + s.e.l.length + sumA l := by simp [sumA]

set_option maxHeartbeats 1000000 in
theorem spec53 (b : Block) (h0 : b.l.length ≤ 1000000000000000) (h1 : sumA b.l ≤ 1000000000000000000) (S : St) : run kt (.func 53 [] []) [.agg b.t31.enc] S = some (.tuple [.v (.int .i64 (b.l.length : Int)), .v (.int .i64 (1 + (sumA b.l : Int)))], S) := by
  have := go_closed ks_kt (f := 53) (fst := []) (cap := []) (args := [.agg b.t31.enc]) (S := S) h53 (b.l.length + 1) rfl (fn_kt 53 fn53) rfl (z := (.tuple [.v (.int .i64 (b.l.length : Int)), .v (.int .i64 (1 + (sumA b.l : Int)))], St0)) (by
    simp only [List.nil_append, List.append_nil, List.map_cons, List.map_nil, block_ws]
    rw [tell53]
    simp only [splitB_dec]
    generalize hF : (fun vs0 S1 => _ : List SV → St → Option (Ex × List SV × St)) = F
    have loop : ∀ (suf : List Stmt) (i : Nat), b.l.drop i = suf → i ≤ b.l.length → ∀ (a : Int) (M : Nat), 0 ≤ a → a + sumA suf ≤ 2000000000000000000 → suf.length < M →
        iter F M [.v (.int .i64 a), .v (.int .i64 (i : Int))] St0 = some (.exit 0, [.v (.int .i64 (a + sumA suf)), .v (.int .i64 (b.l.length : Int))], St0) := by
      intro suf
      induction suf with
      | nil =>
        intro i hd hi a M ha hs hM
        obtain ⟨M, rfl⟩ : ∃ m, M = m + 1 := ⟨M - 1, by have : 0 < M := hM; omega⟩
        have h1 : b.l.length ≤ i := by
          have := congrArg List.length hd
          simp at this
          omega
        obtain rfl : i = b.l.length := by omega
        refine iter_exit ?_
        rw [← hF]
        simp only [openHd_v, openInt_v, Block.t31, len_stmts (P_kt 53), Option.bind_some]
        rw [if_neg (by omega)]
        simp [sumA]
      | cons x r ih =>
        intro i hd hi a M ha hs hM
        obtain ⟨M, rfl⟩ : ∃ m, M = m + 1 := ⟨M - 1, by rw [List.length_cons] at hM; omega⟩
        have hlt : i < b.l.length := by
          have := congrArg List.length hd
          simp at this
          omega
        have hx : b.l[i] = x := by
          have := congrArg (fun z => z[0]?) hd
          simp [hlt] at this
          exact this
        have hdr : b.l.drop (i + 1) = r := by
          have := congrArg List.tail hd
          simpa using this
        rw [sumA_cons] at hs ⊢
        have step : F [.v (.int .i64 a), .v (.int .i64 (i : Int))] St0 = some (.normal, [.v (.int .i64 (a + x.l.length + x.e.l.length)), .v (.int .i64 ((i + 1 : Nat) : Int))], St0) := by
          rw [← hF]
          simp only [openHd_v, openInt_v, Block.t31, len_stmts (P_kt 53), Option.bind_some]
          rw [if_pos (by omega), index_stmts (P_kt 53) .i64 b.l i hlt, hx]
          simp only [Option.bind_some, openCp57']
          simp only [Stmt.t57, len_atoms (P_kt 53), Option.bind_some, openInt_v]
          rw [wrap_in (a := a + x.l.length) (by omega) (by omega), wrap_in (a := a + x.l.length + x.e.l.length) (by omega) (by omega), wrap_in (a := (i : Int) + 1) (by omega) (by omega)]
          rfl
        have e1 : (a + x.l.length + x.e.l.length : Int) + sumA r = a + ((x.l.length + x.e.l.length + sumA r : Nat) : Int) := by omega
        rw [iter_normal step, ih (i + 1) hdr hlt _ M (by omega) (by omega) (by simpa using hM), e1]
    have hl := loop b.l 0 rfl (by omega) 1 (b.l.length + 1) (by omega) (by omega) (by omega)
    have hl : iter F (b.l.length + 1) [.v (.int .i64 1), .v (.int .i64 0)] St0 = _ := hl
    rw [hl]
    simp only [Option.bind_some, openHd_v, openInt_v, exits_exit, if_true, Block.t31, len_stmts (P_kt 53)])
  exact this

def smallM (b : Block) : Bool := decide ((b.l.length : Int) ≤ 300) && (decide (1 + (sumA b.l : Int) ≤ 3000) && (decide ((b.tmps.length : Int) ≤ 4100) && decide ((b.spans.length : Int) ≤ 200)))
theorem spec13 (b : Block) (h0 : b.l.length ≤ 1000000000000000) (h1 : sumA b.l ≤ 1000000000000000000) (S : St) : run kt (.func 13 [] []) [.agg b.t31.enc] S = some (.v (.bool (smallM b)), S) := by
  refine closed_bool h13 0 rfl (fn_kt 13 fn13) rfl ?_
  simp only [List.map_cons, List.map_nil, block_ws]
  rw [tell13]
  have e := spec53 b h0 h1 St0
  rw [e]
  have e1 : lenE (kt.at 13) 22 b.t31.tmps = some (.v (.int .i64 (b.tmps.length : Int))) := len_nums (P_kt 13) b.tmps
  have e2 : lenE (kt.at 13) 29 b.t31.spans = some (.v (.int .i64 (b.spans.length : Int))) := len_spans (P_kt 13) b.spans
  rw [e1, e2]
  show ExB (Option.bind (α := List SV) (splitB (.v (.bool (decide ((b.l.length : Int) ≤ 300)))) (splitB (.v (.bool (decide (1 + (sumA b.l : Int) ≤ 3000)))) (splitB (.v (.bool (decide ((b.tmps.length : Int) ≤ 4100)))) (some [SV.v (.bool (decide ((b.spans.length : Int) ≤ 200)))]) (some [SV.v (.bool false)])) (some [SV.v (.bool false)])) (some [SV.v (.bool false)])) _) _
  simp only [splitB_if, mlb, ite_and, Option.bind_some, openHd_v, openBool_v]
  exact exB _ _
end Go.Sv
end
