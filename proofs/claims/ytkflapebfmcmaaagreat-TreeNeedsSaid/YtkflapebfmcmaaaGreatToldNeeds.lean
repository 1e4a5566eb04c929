/- A part of the proofs of this seat's laws: an interpreter of the program's form, its soundness against the model, or what it answers on this program. -/
import Derived.Test.YtkflapebfmcmaaaGreatModel
namespace Go.Sv
open Go Go.Proofs
set_option linter.all false
set_option maxRecDepth 1000000
def h34 : H := { hh with live := fun b => match b with | 0 => [(7, 1), (8, 1)] | _ => [], keep := fun b => match b with | 13 => some [(22, 2)] | _ => none }
theorem tell34 (N : Nat) (u0 : T37) (u1 : Int) (u2 : Int) : cBody (kt.at 34) h34 (run kt) N (compF Tryz.f34) [.agg u0.enc, .v (.int .i64 u1), .v (.int .i64 u2)] St0 = (splitB (.v (.bool (u2 == (0 : Int))))
 ((some ((.v (.int .i64 (IntKind.wrap .i64 (u1 + (1 : Int))))), St0)))
 ((iter (fun vs0 S1 => openHd vs0 fun y2 r3 => openInt y2 fun a4 => openHd r3 fun y5 r6 => openInt y5 fun a7 => ((lenE (kt.at 34) 35 u0.l).bind fun r8 => openInt r8 fun a9 => (splitB (.v (.bool (decide (a7 < a9))))
 ((some [(.v (.bool (decide (a4 ≤ u1))))]))
 ((some [(.v (.bool false))])))).bind fun vs10 => openHd vs10 fun y11 r12 => openBool y11 fun b13 => (splitB (.v (.bool b13))
 ((indexAddrE (kt.at 34) 35 u0.l (.v (.int .i64 a7))).bind fun r14 => openCp cd37 r14 fun t15 => (run kt (.func 34 [] []) [(.agg t15.enc), (.v (.int .i64 (IntKind.wrap .i64 (u1 - a4)))), (.v (.int .i64 (IntKind.wrap .i64 (u2 - (1 : Int)))))] S1).bind fun p16 => openInt p16.1 fun a17 => (some (.normal, ([(.v (.int .i64 (IntKind.wrap .i64 (a4 + a17)))), (.v (.int .i64 (IntKind.wrap .i64 (a7 + (1 : Int)))))], p16.2))))
 ((some ((.exit 0), ([(.v (.int .i64 a4)), (.v (.int .i64 a7))], S1)))))) N [(.v (.int .i64 (1 : Int))), (.v (.int .i64 (0 : Int)))] St0).bind fun q18 => openHd q18.2.1 fun y19 r20 => openInt y19 fun a21 => openHd r20 fun y22 r23 => openInt y22 fun a24 => (exits q18.1 (fun i25 => (if i25 = 0 then (some ((.v (.int .i64 a21)), q18.2.2)) else none)) ((some ((.v (.int .i64 (0 : Int))), q18.2.2)))))) := by kernel_rfl
def h35 : H := { hh with live := fun b => match b with  | _ => [], keep := fun b => match b with  | _ => none }
theorem tell35 (N : Nat) (u0 : T37) : cBody (kt.at 35) h35 (run kt) N (compF Tryz.f35) [.agg u0.enc] St0 = (some ((.v (.bool (u0.kind == (0 : Int)))), St0)) := by kernel_rfl
def h9 : H := { hh with live := fun b => match b with | 0 => [(2, 2), (4, 1), (6, 1)] | _ => [], keep := fun b => match b with | 10 => some [(16, 2)] | 35 => some [(41, 2)] | 55 => some [(2, 2)] | _ => none }
theorem tell9 (N : Nat) (u0 : T37) : cBody (kt.at 9) h9 (run kt) N (compF Tryz.f9) [.agg u0.enc] St0 = (run kt (.func 12 [] []) [] St0).bind fun p0 => openBool p0.1 fun b1 => (splitB (.v (.bool (!b1)))
 ((some ((.v (.bool false)), p0.2)))
 (((run kt (.func 34 [] []) [(.agg u0.enc), (.v (.int .i64 (3000 : Int))), (.v (.int .i64 (60 : Int)))] p0.2).bind fun p2 => openInt p2.1 fun a3 => (splitB (.v (.bool (decide (a3 > (3000 : Int)))))
 ((some [(.v (.bool true))]))
 ((run kt (.func 35 [] []) [(.agg u0.enc)] p2.2).bind fun p4 => openBool p4.1 fun b5 => (some [(.v (.bool b5))])))).bind fun vs6 => openHd vs6 fun y7 r8 => openBool y7 fun b9 => (splitB (.v (.bool b9))
 ((some ((.v (.bool true)), p0.2)))
 ((run kt (.func 36 [] []) [(.agg u0.enc)] p0.2).bind fun p10 => openInt p10.1 fun a11 => storeK (kt.at 9) 37 (.ptr (St.next p10.2) 0) (.agg u0.enc) (St.alloc p10.2 (.cells [(.v (.int .i64 (0 : Int))), (.v (.int .i64 (0 : Int))), (.v (.int .u32 (0 : Int))), (.v (.int .u32 (0 : Int))), (.v (.int .u32 (0 : Int))), (.v (.int .u32 (0 : Int))), (.v (.int .i64 (0 : Int))), (.v (.int .i64 (0 : Int))), (.v (.int .i64 (0 : Int))), (.v (.int .i64 (0 : Int))), (.v (.slice none 0 0))])) fun S12 => storeK (kt.at 9) 35 (.ptr (St.next p10.2) 10) (.v (.slice none 0 0)) S12 fun S13 => (lenE (kt.at 9) 35 u0.l).bind fun r14 => openInt r14 fun a15 => (iter (fun vs16 S17 => openHd vs16 fun y18 r19 => openBool y18 fun b20 => openHd r19 fun y21 r22 => openInt y21 fun a23 => openHd r22 fun y24 r25 => openInt y24 fun a26 => (splitB (.v (.bool (decide (a26 ≥ (0 : Int)))))
 ((indexAddrE (kt.at 9) 35 u0.l (.v (.int .i64 a26))).bind fun r27 => openCp cd37 r27 fun t28 => (run kt (.func 36 [] []) [(.agg t28.enc)] S17).bind fun p29 => openInt p29.1 fun a30 => ((splitB (.v (.bool (decide (a30 > a11))))
 ((some [(.v (.bool true))]))
 ((some [(.v (.bool (decide (a30 < (0 : Int)))))])))).bind fun vs31 => openHd vs31 fun y32 r33 => openBool y32 fun b34 => (splitB (.v (.bool b34))
 ((some (.ret, ([(.v (.bool false)), (.v (.int .i64 a23)), (.v (.int .i64 a26))], p29.2))))
 ((if (St.next p10.2) < (St.next p29.2) then (loadE (kt.at 9) 35 (.ptr (St.next p10.2) 10) p29.2).bind fun r35 => (indexAddrE (kt.at 9) 35 u0.l (.v (.int .i64 a26))).bind fun r36 => openCp cd37 r36 fun t37 => (appendE (kt.at 9) 35 r35 (.sl (some (St.next p29.2)) 1 t37.enc) (St.alloc p29.2 (.own 11 11))).bind fun p38 => storeK (kt.at 9) 35 (.ptr (St.next p10.2) 10) p38.1 p38.2 fun S39 => (if (St.next p29.2) ≤ (St.next S39) then (some (.normal, ([(.v (.bool b20)), (.v (.int .i64 (IntKind.wrap .i64 (a23 + a30)))), (.v (.int .i64 (IntKind.wrap .i64 (a26 - (1 : Int)))))], S39))) else none) else none))))
 ((some ((.exit 0), ([(.v (.bool b20)), (.v (.int .i64 a23)), (.v (.int .i64 a26))], S17)))))) N [(.v (.bool false)), (.v (.int .i64 (0 : Int))), (.v (.int .i64 (IntKind.wrap .i64 (a15 - (1 : Int)))))] S13).bind fun q40 => openHd q40.2.1 fun y41 r42 => openBool y41 fun b43 => openHd r42 fun y44 r45 => openInt y44 fun a46 => openHd r45 fun y47 r48 => openInt y47 fun a49 => (exits q40.1 (fun i50 => (if i50 = 0 then (splitB (.v (.bool (decide (a11 ≥ (1 : Int)))))
 ((splitB (.v (.bool (decide (a11 ≤ (if (1 : Int) > a46 then (1 : Int) else a46)))))
 ((loadE (kt.at 9) 37 (.ptr (St.next p10.2) 0) q40.2.2).bind fun r51 => openAgg cd37 r51 fun t52 => (run kt (.func 36 [] []) [(.agg t52.enc)] q40.2.2).bind fun p53 => openInt p53.1 fun a54 => (some ((.v (.bool (a54 == a11))), p53.2)))
 ((some ((.v (.bool false)), q40.2.2)))))
 ((some ((.v (.bool false)), q40.2.2)))) else none)) ((some ((.v (.bool b43)), q40.2.2)))))))) := by kernel_rfl
def h91k1 : H := { hh with live := fun b => match b with | 0 => [(5, 0), (10, 1)] | _ => [], keep := fun b => match b with  | _ => none }
theorem tell91k1 (N : Nat) (n0 : Nat) (k0 : List SV) (g1 : Nat) (f1 x1 : List SV) (S : St) : cBody (k1.at 91) h91k1 (run k1) N (compF Tryz.f91) [.sl none n0 k0, .func g1 f1 x1] S = (iter (fun vs0 S1 => openHd vs0 fun y2 r3 => openHd r3 fun y4 r5 => openInt y4 fun a6 => (splitB (.v (.bool (decide (a6 < ((n0 : Nat) : Int)))))
 ((indexAddrE (k1.at 91) 35 (.sl none n0 k0) (.v (.int .i64 a6))).bind fun r7 => openCp cd37 r7 fun t8 => storeK (k1.at 91) 37 (.ptr (St.next S1) 0) (.agg t8.enc) (St.alloc S1 (.cells [(.v (.int .i64 (0 : Int))), (.v (.int .i64 (0 : Int))), (.v (.int .u32 (0 : Int))), (.v (.int .u32 (0 : Int))), (.v (.int .u32 (0 : Int))), (.v (.int .u32 (0 : Int))), (.v (.int .i64 (0 : Int))), (.v (.int .i64 (0 : Int))), (.v (.int .i64 (0 : Int))), (.v (.int .i64 (0 : Int))), (.v (.slice none 0 0))])) fun S9 => (loadE (k1.at 91) 37 (.ptr (St.next S1) 0) S9).bind fun r10 => openAgg cd37 r10 fun t11 => (run k1 (.func g1 f1 x1) [(.agg t11.enc)] S9).bind fun p12 => openInt p12.1 fun a13 => (appendE (k1.at 91) 22 y2 (.arr (St.next p12.2) 1) (St.alloc p12.2 (.arr 1 [(.v (.int .i64 a13))]))).bind fun p14 => (some (.normal, ([p14.1, (.v (.int .i64 (IntKind.wrap .i64 (a6 + (1 : Int)))))], p14.2))))
 ((some ((.exit 0), ([y2, (.v (.int .i64 a6))], S1)))))) N [(.v (.slice none 0 0)), (.v (.int .i64 (0 : Int)))] S).bind fun q15 => openHd q15.2.1 fun y16 r17 => openHd r17 fun y18 r19 => openInt y18 fun a20 => (exits q15.1 (fun i21 => (if i21 = 0 then (some (y16, q15.2.2)) else none)) ((some ((.v (.slice none 0 0)), q15.2.2)))) := by kernel_rfl
def h36k1 : H := { hh with live := fun b => match b with | 0 => [(4, 1), (21, 1)] | _ => [], keep := fun b => match b with  | _ => none }
theorem tell36k1 (N : Nat) (u0 : T37) : cBody (k1.at 36) h36k1 (run k1) N (compF Tryz.f36) [.agg u0.enc] St0 = (splitB (.v (.bool (u0.kind == (0 : Int))))
 ((splitB (.v (.bool (decide (u0.a_Tmp < (0 : Int)))))
 ((some ((.v (.int .i64 (0 : Int))), St0)))
 ((some ((.v (.int .i64 (1 : Int))), St0)))))
 ((run k1 (.func 91 [] []) [u0.l, (.func 36 [] [])] St0).bind fun p0 => (run k1 (.func 92 [] []) [p0.1, (.func 93 [] [])] p0.2).bind fun p1 => (lenE (k1.at 36) 22 p0.1).bind fun r2 => openInt r2 fun a3 => (iter (fun vs4 S5 => openHd vs4 fun y6 r7 => openInt y6 fun a8 => openHd r7 fun y9 r10 => openInt y9 fun a11 => (splitB (.v (.bool (decide (a11 < a3))))
 ((indexAddrE (k1.at 36) 22 p0.1 (.v (.int .i64 a11))).bind fun r12 => (loadE (k1.at 36) 3 r12 S5).bind fun r13 => openInt r13 fun a14 => (splitB (.v (.bool (decide (a14 > (0 : Int)))))
 ((some (.normal, ([(.v (.int .i64 (if (IntKind.wrap .i64 (a14 + a11)) > a8 then (IntKind.wrap .i64 (a14 + a11)) else a8))), (.v (.int .i64 (IntKind.wrap .i64 (a11 + (1 : Int)))))], S5))))
 ((some (.normal, ([(.v (.int .i64 a8)), (.v (.int .i64 (IntKind.wrap .i64 (a11 + (1 : Int)))))], S5))))))
 ((some ((.exit 0), ([(.v (.int .i64 a8)), (.v (.int .i64 a11))], S5)))))) N [(.v (.int .i64 (1 : Int))), (.v (.int .i64 (0 : Int)))] p1.2).bind fun q15 => openHd q15.2.1 fun y16 r17 => openInt y16 fun a18 => openHd r17 fun y19 r20 => openInt y19 fun a21 => (exits q15.1 (fun i22 => (if i22 = 0 then (some ((.v (.int .i64 a18)), q15.2.2)) else none)) ((some ((.v (.int .i64 (0 : Int))), q15.2.2)))))) := by kernel_rfl
end Go.Sv
