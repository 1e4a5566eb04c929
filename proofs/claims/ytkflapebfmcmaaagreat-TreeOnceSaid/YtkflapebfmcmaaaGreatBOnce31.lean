/- Parts of the proofs of this seat's laws. -/
import Derived.Test.YtkflapebfmcmaaaGreatBOnce27
section
namespace Go.Sv
open Go Go.Proofs
set_option linter.all false
set_option maxRecDepth 1000000
set_option maxHeartbeats 0
def h110 : H := { hh with live := fun b => match b with  | _ => [], keep := fun b => match b with  | _ => none }
theorem tell110 (N : Nat) (u0 : Int) : cBody (kt.at 110) h110 (run kt) N (compF Tryz.f110) [.v (.int .i64 u0)] St0 = (run kt (.func 111 [] []) [(.v (.int .i64 u0))] St0).bind fun p0 => openInt p0.1 fun a1 => (some ((.v (.bool (a1 == (0 : Int)))), p0.2)) := by kernel_rfl
theorem fn110 : fnsK 110 = some (compF Tryz.f110) := by kernel_rfl
def h111 : H := { hh with live := fun b => match b with  | _ => [], keep := fun b => match b with  | _ => none }
theorem tell111 (N : Nat) (u0 : Int) : cBody (kt.at 111) h111 (run kt) N (compF Tryz.f111) [.v (.int .i64 u0)] St0 = (splitB (.v (.bool (u0 == (1 : Int))))
 ((some ((.v (.int .i64 (1 : Int))), St0)))
 ((splitB (.v (.bool (u0 == (8 : Int))))
 ((some ((.v (.int .i64 (1 : Int))), St0)))
 ((splitB (.v (.bool (u0 == (16 : Int))))
 ((some ((.v (.int .i64 (2 : Int))), St0)))
 ((splitB (.v (.bool (u0 == (32 : Int))))
 ((some ((.v (.int .i64 (4 : Int))), St0)))
 ((splitB (.v (.bool (u0 == (128 : Int))))
 ((some ((.v (.int .i64 (16 : Int))), St0)))
 ((some ((.v (.int .i64 (0 : Int))), St0)))))))))))) := by kernel_rfl
theorem fn111 : fnsK 111 = some (compF Tryz.f111) := by kernel_rfl
def h113 : H := { hh with live := fun b => match b with  | _ => [], keep := fun b => match b with | 3 => some [(2, 2)] | _ => none }
theorem tell113 (N : Nat) (u0 : T108) : cBody (kt.at 113) h113 (run kt) N (compF Tryz.f113) [.agg u0.enc] St0 = ((splitB (.v (.bool (decide (u0.n < (1 : Int)))))
 ((some [(.v (.bool true))]))
 ((some [(.v (.bool (decide (u0.n > (65536 : Int)))))])))).bind fun vs0 => openHd vs0 fun y1 r2 => openBool y1 fun b3 => (some ((.v (.bool b3)), St0)) := by kernel_rfl
theorem fn113 : fnsK 113 = some (compF Tryz.f113) := by kernel_rfl
def h114 : H := { hh with live := fun b => match b with  | _ => [], keep := fun b => match b with  | _ => none }
theorem tell114 (N : Nat) (u0 : Int) (c0 : SV) (S : St) : cBody (kt.at 114) h114 (run kt) N (compF Tryz.f114) [.v (.int .i64 u0), c0] S = (loadE (kt.at 114) 124 c0 S).bind fun r0 => (indexAddrE (kt.at 114) 124 r0 (.v (.int .i64 u0))).bind fun r1 => (loadE (kt.at 114) 4 r1 S).bind fun r2 => openBool r2 fun b3 => (some ((.v (.bool b3)), S)) := by kernel_rfl
theorem fn114 : fnsK 114 = some (compF Tryz.f114) := by kernel_rfl
def h117 : H := { hh with live := fun b => match b with  | _ => [], keep := fun b => match b with  | _ => none }
theorem tell117 (N : Nat) (u0 : Int) (c0 : SV) (S : St) : cBody (kt.at 117) h117 (run kt) N (compF Tryz.f117) [.v (.int .i64 u0), c0] S = (loadE (kt.at 117) 156 c0 S).bind fun r0 => (run kt r0 [(.v (.int .i64 u0))] S).bind fun p1 => openBool p1.1 fun b2 => (some ((.v (.bool (!b2))), p1.2)) := by kernel_rfl
theorem fn117 : fnsK 117 = some (compF Tryz.f117) := by kernel_rfl
def h109 : H := { hh with live := fun b => match b with  | _ => [], keep := fun b => match b with  | _ => none }
theorem tell109 (N : Nat) (n0 : Nat) (k0 : List SV) (g1 : Nat) (f1 x1 : List SV) (S : St) : cBody (kt.at 109) h109 (run kt) N (compF Tryz.f109) [.sl none n0 k0, .func g1 f1 x1] S = (run kt (.func 159 [] []) [(.sl none n0 k0), (.func g1 f1 x1)] S).bind fun p0 => openInt p0.1 fun a1 => (some ((.v (.bool (decide (a1 ≥ (0 : Int))))), p0.2)) := by kernel_rfl
theorem fn109 : fnsK 109 = some (compF Tryz.f109) := by kernel_rfl
def h112 : H := { hh with live := fun b => match b with  | _ => [], keep := fun b => match b with  | _ => none }
theorem tell112 (N : Nat) (n0 : Nat) (k0 : List SV) (g1 : Nat) (f1 x1 : List SV) (S : St) : cBody (kt.at 112) h112 (run kt) N (compF Tryz.f112) [.sl none n0 k0, .func g1 f1 x1] S = (run kt (.func 160 [] []) [(.sl none n0 k0), (.func g1 f1 x1)] S).bind fun p0 => openInt p0.1 fun a1 => (some ((.v (.bool (decide (a1 ≥ (0 : Int))))), p0.2)) := by kernel_rfl
theorem fn112 : fnsK 112 = some (compF Tryz.f112) := by kernel_rfl
def h159 : H := { hh with live := fun b => match b with | 0 => [(4, 1), (8, 1)] | _ => [], keep := fun b => match b with  | _ => none }
theorem tell159 (N : Nat) (n0 : Nat) (k0 : List SV) (g1 : Nat) (f1 x1 : List SV) (S : St) : cBody (kt.at 159) h159 (run kt) N (compF Tryz.f159) [.sl none n0 k0, .func g1 f1 x1] S = (iter (fun vs0 S1 => openHd vs0 fun y2 r3 => openInt y2 fun a4 => openHd r3 fun y5 r6 => openInt y5 fun a7 => (splitB (.v (.bool (decide (a7 < ((n0 : Nat) : Int)))))
 ((indexAddrE (kt.at 159) 22 (.sl none n0 k0) (.v (.int .i64 a7))).bind fun r8 => (loadE (kt.at 159) 3 r8 S1).bind fun r9 => openInt r9 fun a10 => (run kt (.func g1 f1 x1) [(.v (.int .i64 a10))] S1).bind fun p11 => openBool p11.1 fun b12 => (splitB (.v (.bool b12))
 ((some (.ret, ([(.v (.int .i64 a7)), (.v (.int .i64 a7))], p11.2))))
 ((some (.normal, ([(.v (.int .i64 a4)), (.v (.int .i64 (IntKind.wrap .i64 (a7 + (1 : Int)))))], p11.2))))))
 ((some ((.exit 0), ([(.v (.int .i64 a4)), (.v (.int .i64 a7))], S1)))))) N [(.v (.int .i64 (0 : Int))), (.v (.int .i64 (0 : Int)))] S).bind fun q13 => openHd q13.2.1 fun y14 r15 => openInt y14 fun a16 => openHd r15 fun y17 r18 => openInt y17 fun a19 => (exits q13.1 (fun i20 => (if i20 = 0 then (some ((.v (.int .i64 (-(1 : Int)))), q13.2.2)) else none)) ((some ((.v (.int .i64 a16)), q13.2.2)))) := by kernel_rfl
theorem fn159 : fnsK 159 = some (compF Tryz.f159) := by kernel_rfl
def h160 : H := { hh with live := fun b => match b with | 0 => [(4, 1), (8, 1)] | _ => [], keep := fun b => match b with  | _ => none }
theorem tell160 (N : Nat) (n0 : Nat) (k0 : List SV) (g1 : Nat) (f1 x1 : List SV) (S : St) : cBody (kt.at 160) h160 (run kt) N (compF Tryz.f160) [.sl none n0 k0, .func g1 f1 x1] S = (iter (fun vs0 S1 => openHd vs0 fun y2 r3 => openInt y2 fun a4 => openHd r3 fun y5 r6 => openInt y5 fun a7 => (splitB (.v (.bool (decide (a7 < ((n0 : Nat) : Int)))))
 ((indexAddrE (kt.at 160) 29 (.sl none n0 k0) (.v (.int .i64 a7))).bind fun r8 => openCp cd108 r8 fun t9 => (run kt (.func g1 f1 x1) [(.agg t9.enc)] S1).bind fun p10 => openBool p10.1 fun b11 => (splitB (.v (.bool b11))
 ((some (.ret, ([(.v (.int .i64 a7)), (.v (.int .i64 a7))], p10.2))))
 ((some (.normal, ([(.v (.int .i64 a4)), (.v (.int .i64 (IntKind.wrap .i64 (a7 + (1 : Int)))))], p10.2))))))
 ((some ((.exit 0), ([(.v (.int .i64 a4)), (.v (.int .i64 a7))], S1)))))) N [(.v (.int .i64 (0 : Int))), (.v (.int .i64 (0 : Int)))] S).bind fun q12 => openHd q12.2.1 fun y13 r14 => openInt y13 fun a15 => openHd r14 fun y16 r17 => openInt y16 fun a18 => (exits q12.1 (fun i19 => (if i19 = 0 then (some ((.v (.int .i64 (-(1 : Int)))), q12.2.2)) else none)) ((some ((.v (.int .i64 a15)), q12.2.2)))) := by kernel_rfl
theorem fn160 : fnsK 160 = some (compF Tryz.f160) := by kernel_rfl
def h162 : H := { hh with live := fun b => match b with  | _ => [], keep := fun b => match b with  | _ => none }
theorem tell162 (N : Nat) (n0 : Nat) (k0 : List SV) (u1 : Int) : cBody (kt.at 162) h162 (run kt) N (compF Tryz.f162) [.sl none n0 k0, .v (.int .i64 u1)] St0 = (run kt (.func 202 [] []) [(.sl none n0 k0), (.v (.int .i64 u1))] St0).bind fun p0 => openInt p0.1 fun a1 => (some ((.v (.bool (decide (a1 ≥ (0 : Int))))), p0.2)) := by kernel_rfl
theorem fn162 : fnsK 162 = some (compF Tryz.f162) := by kernel_rfl
def h202 : H := { hh with live := fun b => match b with | 0 => [(4, 1), (8, 1)] | _ => [], keep := fun b => match b with  | _ => none }
theorem tell202 (N : Nat) (n0 : Nat) (k0 : List SV) (u1 : Int) : cBody (kt.at 202) h202 (run kt) N (compF Tryz.f202) [.sl none n0 k0, .v (.int .i64 u1)] St0 = (iter (fun vs0 S1 => openHd vs0 fun y2 r3 => openInt y2 fun a4 => openHd r3 fun y5 r6 => openInt y5 fun a7 => (splitB (.v (.bool (decide (a7 < ((n0 : Nat) : Int)))))
 ((indexAddrE (kt.at 202) 22 (.sl none n0 k0) (.v (.int .i64 a7))).bind fun r8 => (loadE (kt.at 202) 3 r8 S1).bind fun r9 => openInt r9 fun a10 => (splitB (.v (.bool (u1 == a10)))
 ((some (.ret, ([(.v (.int .i64 a7)), (.v (.int .i64 a7))], S1))))
 ((some (.normal, ([(.v (.int .i64 a4)), (.v (.int .i64 (IntKind.wrap .i64 (a7 + (1 : Int)))))], S1))))))
 ((some ((.exit 0), ([(.v (.int .i64 a4)), (.v (.int .i64 a7))], S1)))))) N [(.v (.int .i64 (0 : Int))), (.v (.int .i64 (0 : Int)))] St0).bind fun q11 => openHd q11.2.1 fun y12 r13 => openInt y12 fun a14 => openHd r13 fun y15 r16 => openInt y15 fun a17 => (exits q11.1 (fun i18 => (if i18 = 0 then (some ((.v (.int .i64 (-(1 : Int)))), q11.2.2)) else none)) ((some ((.v (.int .i64 a14)), q11.2.2)))) := by kernel_rfl
theorem fn202 : fnsK 202 = some (compF Tryz.f202) := by kernel_rfl
def h164 : H := { hh with live := fun b => match b with  | _ => [], keep := fun b => match b with | 4 => some [(3, 2)] | _ => none }
theorem tell164 (N : Nat) (u0 : Int) (c0 : SV) (S : St) : cBody (kt.at 164) h164 (run kt) N (compF Tryz.f164) [.v (.int .i64 u0), c0] S = ((loadE (kt.at 164) 22 c0 S).bind fun r0 => (lenE (kt.at 164) 22 r0).bind fun r1 => openInt r1 fun a2 => (splitB (.v (.bool (decide (u0 < a2))))
 ((loadE (kt.at 164) 22 c0 S).bind fun r3 => (indexAddrE (kt.at 164) 22 r3 (.v (.int .i64 u0))).bind fun r4 => (loadE (kt.at 164) 3 r4 S).bind fun r5 => openInt r5 fun a6 => (some [(.v (.bool (a6 == (32 : Int))))]))
 ((some [(.v (.bool false))])))).bind fun vs7 => openHd vs7 fun y8 r9 => openBool y8 fun b10 => (some ((.v (.bool b10)), S)) := by kernel_rfl
theorem fn164 : fnsK 164 = some (compF Tryz.f164) := by kernel_rfl
def h167 : H := { hh with live := fun b => match b with  | _ => [], keep := fun b => match b with  | _ => none }
theorem tell167 (N : Nat) (u0 : Int) : cBody (kt.at 167) h167 (run kt) N (compF Tryz.f167) [.v (.int .i64 u0)] St0 = (some ((.v (.bool (u0 != (32 : Int)))), St0)) := by kernel_rfl
theorem fn167 : fnsK 167 = some (compF Tryz.f167) := by kernel_rfl
def h168 : H := { hh with live := fun b => match b with  | _ => [], keep := fun b => match b with  | _ => none }
theorem tell168 (N : Nat) (u0 : Int) : cBody (kt.at 168) h168 (run kt) N (compF Tryz.f168) [.v (.int .i64 u0)] St0 = (some ((.v (.bool (u0 != (32 : Int)))), St0)) := by kernel_rfl
theorem fn168 : fnsK 168 = some (compF Tryz.f168) := by kernel_rfl
def h165 : H := { hh with live := fun b => match b with  | _ => [], keep := fun b => match b with | 8 => some [(4, 2)] | _ => none }
theorem tell165 (N : Nat) (u0 : Int) (u1 : Int) : cBody (kt.at 165) h165 (run kt) N (compF Tryz.f165) [.v (.int .i64 u0), .v (.int .i64 u1)] St0 = (run kt (.func 111 [] []) [(.v (.int .i64 u1))] St0).bind fun p0 => openInt p0.1 fun a1 => ((run kt (.func 166 [] []) [(.v (.int .i64 u1))] p0.2).bind fun p2 => openBool p2.1 fun b3 => (splitB (.v (.bool b3))
 ((splitB (.v (.bool (decide (u0 ≥ (0 : Int)))))
 ((binE (kt.at 165) .rem 3 (.v (.int .i64 u0)) (.v (.int .i64 a1))).bind fun r4 => (binE (kt.at 165) .eql 3 r4 (.v (.int .i64 (0 : Int)))).bind fun r5 => (splitG r5
 ((some [(.v (.bool (decide (u0 ≤ (IntKind.wrap .i64 ((672 : Int) - a1))))))]))
 ((some [(.v (.bool false))]))
 ((splitG r5
 (none)
 ((some [(.v (.bool false))]))
 ((splitG r5
 (none)
 ((some [(.v (.bool false))]))
 ((splitG r5
 (none)
 ((some [(.v (.bool false))]))
 ((splitB r5
 ((some [(.v undef)]))
 ((some [(.v (.bool false))]))))))))))))
 ((some [(.v (.bool false))]))))
 ((some [(.v (.bool false))])))).bind fun vs6 => openHd vs6 fun y7 r8 => openBool y7 fun b9 => (some ((.v (.bool b9)), p0.2)) := by kernel_rfl
theorem fn165 : fnsK 165 = some (compF Tryz.f165) := by kernel_rfl
def h166 : H := { hh with live := fun b => match b with  | _ => [], keep := fun b => match b with | 3 => some [(2, 2)] | _ => none }
theorem tell166 (N : Nat) (u0 : Int) : cBody (kt.at 166) h166 (run kt) N (compF Tryz.f166) [.v (.int .i64 u0)] St0 = ((splitB (.v (.bool (u0 != (1 : Int))))
 ((run kt (.func 111 [] []) [(.v (.int .i64 u0))] St0).bind fun p0 => openInt p0.1 fun a1 => (some [(.v (.bool (decide (a1 > (0 : Int)))))]))
 ((some [(.v (.bool false))])))).bind fun vs2 => openHd vs2 fun y3 r4 => openBool y3 fun b5 => (some ((.v (.bool b5)), St0)) := by kernel_rfl
theorem fn166 : fnsK 166 = some (compF Tryz.f166) := by kernel_rfl
def h163 : H := { hh with live := fun b => match b with  | _ => [], keep := fun b => match b with | 3 => some [(2, 2)] | _ => none }
theorem tell163 (N : Nat) (u0 : T55) : cBody (kt.at 163) h163 (run kt) N (compF Tryz.f163) [.agg u0.enc] St0 = ((splitB (.v (.bool (u0.kind == (0 : Int))))
 ((splitB (.v (.bool (u0.ty == (0 : Int))))
 ((splitB (.v (.bool (u0.op == (0 : Int))))
 ((splitB (.v (.bool (u0.off == (0 : Int))))
 ((lenE (kt.at 163) 53 u0.l).bind fun r0 => openInt r0 fun a1 => (some [(.v (.bool (a1 == (0 : Int))))]))
 ((some [(.v (.bool false))]))))
 ((some [(.v (.bool false))]))))
 ((some [(.v (.bool false))]))))
 ((some [(.v (.bool false))])))).bind fun vs2 => openHd vs2 fun y3 r4 => openBool y3 fun b5 => (some ((.v (.bool b5)), St0)) := by kernel_rfl
theorem fn163 : fnsK 163 = some (compF Tryz.f163) := by kernel_rfl
def h196 : H := { hh with live := fun b => match b with  | _ => [], keep := fun b => match b with | 5 => some [(11, 2)] | _ => none }
theorem tell196 (N : Nat) (u0 : Bool) (u1 : Int) : cBody (kt.at 196) h196 (run kt) N (compF Tryz.f196) [.v (.bool u0), .v (.int .i64 u1)] St0 = ((splitB (.v (.bool (!u0)))
 ((some [(.v (.bool true))]))
 ((run kt (.func 111 [] []) [(.v (.int .i64 u1))] St0).bind fun p0 => openInt p0.1 fun a1 => (some [(.v (.bool (a1 == (0 : Int))))])))).bind fun vs2 => openHd vs2 fun y3 r4 => openBool y3 fun b5 => (splitB (.v (.bool b5))
 ((some ((.v (.int .i64 (0 : Int))), St0)))
 ((some ((.v (.int .i64 u1)), St0)))) := by kernel_rfl
theorem fn196 : fnsK 196 = some (compF Tryz.f196) := by kernel_rfl
def h197 : H := { hh with live := fun b => match b with  | _ => [], keep := fun b => match b with | 17 => some [(5, 2)] | 26 => some [(5, 2)] | 45 => some [(5, 2)] | 54 => some [(5, 2)] | 65 => some [(5, 2)] | 74 => some [(5, 2)] | 83 => some [(4, 1)] | 105 => some [(5, 2)] | 112 => some [(4, 1)] | _ => none }
theorem tell197 (N : Nat) (u0 : T55) (u1 : Int) : cBody (kt.at 197) h197 (run kt) N (compF Tryz.f197) [.agg u0.enc, .v (.int .i64 u1)] St0 = (splitB (.v (.bool (u0.op == (1 : Int))))
 (((splitB (.v (.bool (u0.ty == u1)))
 ((run kt (.func 196 [] []) [(.v (.bool (u0.off == (0 : Int)))), (.v (.int .i64 u0.ty))] St0).bind fun p0 => openInt p0.1 fun a1 => (some [(.v (.int .i64 a1))]))
 ((run kt (.func 196 [] []) [(.v (.bool false)), (.v (.int .i64 u0.ty))] St0).bind fun p2 => openInt p2.1 fun a3 => (some [(.v (.int .i64 a3))])))).bind fun vs4 => openHd vs4 fun y5 r6 => openInt y5 fun a7 => (some ((.v (.int .i64 a7)), St0)))
 ((splitB (.v (.bool (u0.op == (2 : Int))))
 (((splitB (.v (.bool (u0.ty == (32 : Int))))
 ((some [(.v (.bool (decide (u1 < (32 : Int)))))]))
 ((some [(.v (.bool false))])))).bind fun vs8 => openHd vs8 fun y9 r10 => openBool y9 fun b11 => ((splitB (.v (.bool b11))
 ((run kt (.func 196 [] []) [(.v (.bool (u0.off == (0 : Int)))), (.v (.int .i64 u0.ty))] St0).bind fun p12 => openInt p12.1 fun a13 => (some [(.v (.int .i64 a13))]))
 ((run kt (.func 196 [] []) [(.v (.bool false)), (.v (.int .i64 u0.ty))] St0).bind fun p14 => openInt p14.1 fun a15 => (some [(.v (.int .i64 a15))])))).bind fun vs16 => openHd vs16 fun y17 r18 => openInt y17 fun a19 => (some ((.v (.int .i64 a19)), St0)))
 ((splitB (.v (.bool (u0.op == (3 : Int))))
 (((splitB (.v (.bool (u0.ty == (32 : Int))))
 ((some [(.v (.bool (decide (u1 < (32 : Int)))))]))
 ((some [(.v (.bool false))])))).bind fun vs20 => openHd vs20 fun y21 r22 => openBool y21 fun b23 => ((splitB (.v (.bool b23))
 ((run kt (.func 196 [] []) [(.v (.bool (u0.off == (0 : Int)))), (.v (.int .i64 u0.ty))] St0).bind fun p24 => openInt p24.1 fun a25 => (some [(.v (.int .i64 a25))]))
 ((run kt (.func 196 [] []) [(.v (.bool false)), (.v (.int .i64 u0.ty))] St0).bind fun p26 => openInt p26.1 fun a27 => (some [(.v (.int .i64 a27))])))).bind fun vs28 => openHd vs28 fun y29 r30 => openInt y29 fun a31 => (some ((.v (.int .i64 a31)), St0)))
 ((splitB (.v (.bool (u0.op == (4 : Int))))
 (((splitB (.v (.bool (u1 == (32 : Int))))
 ((splitB (.v (.bool (u0.ty == (8 : Int))))
 ((some [(.v (.bool true))]))
 ((some [(.v (.bool (u0.ty == (16 : Int))))]))))
 ((some [(.v (.bool false))])))).bind fun vs32 => openHd vs32 fun y33 r34 => openBool y33 fun b35 => ((splitB (.v (.bool b35))
 ((run kt (.func 196 [] []) [(.v (.bool (u0.off == (0 : Int)))), (.v (.int .i64 u0.ty))] St0).bind fun p36 => openInt p36.1 fun a37 => (some [(.v (.int .i64 a37))]))
 ((run kt (.func 196 [] []) [(.v (.bool false)), (.v (.int .i64 u0.ty))] St0).bind fun p38 => openInt p38.1 fun a39 => (some [(.v (.int .i64 a39))])))).bind fun vs40 => openHd vs40 fun y41 r42 => openInt y41 fun a43 => (some ((.v (.int .i64 a43)), St0)))
 ((splitB (.v (.bool (u0.op == (5 : Int))))
 (((splitB (.v (.bool (u0.ty == (1 : Int))))
 ((run kt (.func 196 [] []) [(.v (.bool (u0.off == (0 : Int)))), (.v (.int .i64 u0.ty))] St0).bind fun p44 => openInt p44.1 fun a45 => (some [(.v (.int .i64 a45))]))
 ((run kt (.func 196 [] []) [(.v (.bool false)), (.v (.int .i64 u0.ty))] St0).bind fun p46 => openInt p46.1 fun a47 => (some [(.v (.int .i64 a47))])))).bind fun vs48 => openHd vs48 fun y49 r50 => openInt y49 fun a51 => (some ((.v (.int .i64 a51)), St0)))
 ((splitB (.v (.bool (u0.op == (6 : Int))))
 (((splitB (.v (.bool (u1 == (1 : Int))))
 ((run kt (.func 166 [] []) [(.v (.int .i64 u0.ty))] St0).bind fun p52 => openBool p52.1 fun b53 => (some [(.v (.bool b53))]))
 ((some [(.v (.bool false))])))).bind fun vs54 => openHd vs54 fun y55 r56 => openBool y55 fun b57 => ((splitB (.v (.bool b57))
 ((run kt (.func 196 [] []) [(.v (.bool (u0.off == (0 : Int)))), (.v (.int .i64 u0.ty))] St0).bind fun p58 => openInt p58.1 fun a59 => (some [(.v (.int .i64 a59))]))
 ((run kt (.func 196 [] []) [(.v (.bool false)), (.v (.int .i64 u0.ty))] St0).bind fun p60 => openInt p60.1 fun a61 => (some [(.v (.int .i64 a61))])))).bind fun vs62 => openHd vs62 fun y63 r64 => openInt y63 fun a65 => (some ((.v (.int .i64 a65)), St0)))
 ((splitB (.v (.bool (u0.op == (7 : Int))))
 (((splitB (.v (.bool (u1 == (32 : Int))))
 ((some [(.v (.bool (u0.ty == (32 : Int))))]))
 ((some [(.v (.bool false))])))).bind fun vs66 => openHd vs66 fun y67 r68 => openBool y67 fun b69 => ((splitB (.v (.bool b69))
 ((run kt (.func 196 [] []) [(.v (.bool (u0.off == (0 : Int)))), (.v (.int .i64 u0.ty))] St0).bind fun p70 => openInt p70.1 fun a71 => (some [(.v (.int .i64 a71))]))
 ((run kt (.func 196 [] []) [(.v (.bool false)), (.v (.int .i64 u0.ty))] St0).bind fun p72 => openInt p72.1 fun a73 => (some [(.v (.int .i64 a73))])))).bind fun vs74 => openHd vs74 fun y75 r76 => openInt y75 fun a77 => (some ((.v (.int .i64 a77)), St0)))
 ((splitB (.v (.bool (u0.op == (8 : Int))))
 (((splitB (.v (.bool (u1 == (128 : Int))))
 ((some [(.v (.bool (u0.ty == (128 : Int))))]))
 ((some [(.v (.bool false))])))).bind fun vs78 => openHd vs78 fun y79 r80 => openBool y79 fun b81 => ((splitB (.v (.bool b81))
 ((run kt (.func 196 [] []) [(.v (.bool (u0.off == (0 : Int)))), (.v (.int .i64 u0.ty))] St0).bind fun p82 => openInt p82.1 fun a83 => (some [(.v (.int .i64 a83))]))
 ((run kt (.func 196 [] []) [(.v (.bool false)), (.v (.int .i64 u0.ty))] St0).bind fun p84 => openInt p84.1 fun a85 => (some [(.v (.int .i64 a85))])))).bind fun vs86 => openHd vs86 fun y87 r88 => openInt y87 fun a89 => (some ((.v (.int .i64 a89)), St0)))
 ((splitB (.v (.bool (u0.op == (9 : Int))))
 (((splitB (.v (.bool (u1 == (128 : Int))))
 ((some [(.v (.bool (u0.ty == (128 : Int))))]))
 ((some [(.v (.bool false))])))).bind fun vs90 => openHd vs90 fun y91 r92 => openBool y91 fun b93 => ((splitB (.v (.bool b93))
 ((run kt (.func 196 [] []) [(.v (.bool (u0.off == (0 : Int)))), (.v (.int .i64 u0.ty))] St0).bind fun p94 => openInt p94.1 fun a95 => (some [(.v (.int .i64 a95))]))
 ((run kt (.func 196 [] []) [(.v (.bool false)), (.v (.int .i64 u0.ty))] St0).bind fun p96 => openInt p96.1 fun a97 => (some [(.v (.int .i64 a97))])))).bind fun vs98 => openHd vs98 fun y99 r100 => openInt y99 fun a101 => (some ((.v (.int .i64 a101)), St0)))
 ((splitB (.v (.bool (u0.op == (10 : Int))))
 (((splitB (.v (.bool (u1 == (128 : Int))))
 ((some [(.v (.bool (u0.ty == (128 : Int))))]))
 ((some [(.v (.bool false))])))).bind fun vs102 => openHd vs102 fun y103 r104 => openBool y103 fun b105 => ((splitB (.v (.bool b105))
 ((run kt (.func 196 [] []) [(.v (.bool (u0.off == (0 : Int)))), (.v (.int .i64 u0.ty))] St0).bind fun p106 => openInt p106.1 fun a107 => (some [(.v (.int .i64 a107))]))
 ((run kt (.func 196 [] []) [(.v (.bool false)), (.v (.int .i64 u0.ty))] St0).bind fun p108 => openInt p108.1 fun a109 => (some [(.v (.int .i64 a109))])))).bind fun vs110 => openHd vs110 fun y111 r112 => openInt y111 fun a113 => (some ((.v (.int .i64 a113)), St0)))
 ((splitB (.v (.bool (u0.op == (11 : Int))))
 (((splitB (.v (.bool (u1 == (32 : Int))))
 ((some [(.v (.bool (u0.ty == (128 : Int))))]))
 ((some [(.v (.bool false))])))).bind fun vs114 => openHd vs114 fun y115 r116 => openBool y115 fun b117 => ((splitB (.v (.bool b117))
 ((run kt (.func 196 [] []) [(.v (.bool (u0.off == (0 : Int)))), (.v (.int .i64 u0.ty))] St0).bind fun p118 => openInt p118.1 fun a119 => (some [(.v (.int .i64 a119))]))
 ((run kt (.func 196 [] []) [(.v (.bool false)), (.v (.int .i64 u0.ty))] St0).bind fun p120 => openInt p120.1 fun a121 => (some [(.v (.int .i64 a121))])))).bind fun vs122 => openHd vs122 fun y123 r124 => openInt y123 fun a125 => (some ((.v (.int .i64 a125)), St0)))
 ((splitB (.v (.bool (u0.op == (12 : Int))))
 (((splitB (.v (.bool (decide (u0.off ≥ (0 : Int)))))
 ((splitB (.v (.bool (decide (u0.off < (4 : Int)))))
 ((splitB (.v (.bool (u1 == (128 : Int))))
 ((run kt (.func 196 [] []) [(.v (.bool (u0.ty == (32 : Int)))), (.v (.int .i64 u0.ty))] St0).bind fun p126 => openInt p126.1 fun a127 => (some [(.v (.int .i64 a127))]))
 ((run kt (.func 196 [] []) [(.v (.bool false)), (.v (.int .i64 u0.ty))] St0).bind fun p128 => openInt p128.1 fun a129 => (some [(.v (.int .i64 a129))]))))
 ((run kt (.func 196 [] []) [(.v (.bool false)), (.v (.int .i64 u0.ty))] St0).bind fun p130 => openInt p130.1 fun a131 => (some [(.v (.int .i64 a131))]))))
 ((run kt (.func 196 [] []) [(.v (.bool false)), (.v (.int .i64 u0.ty))] St0).bind fun p132 => openInt p132.1 fun a133 => (some [(.v (.int .i64 a133))])))).bind fun vs134 => openHd vs134 fun y135 r136 => openInt y135 fun a137 => (some ((.v (.int .i64 a137)), St0)))
 ((splitB (.v (.bool (u0.op == (13 : Int))))
 (((splitB (.v (.bool (u1 == (128 : Int))))
 ((some [(.v (.bool (u0.ty == (32 : Int))))]))
 ((some [(.v (.bool false))])))).bind fun vs138 => openHd vs138 fun y139 r140 => openBool y139 fun b141 => ((splitB (.v (.bool b141))
 ((run kt (.func 196 [] []) [(.v (.bool (u0.off == (0 : Int)))), (.v (.int .i64 u0.ty))] St0).bind fun p142 => openInt p142.1 fun a143 => (some [(.v (.int .i64 a143))]))
 ((run kt (.func 196 [] []) [(.v (.bool false)), (.v (.int .i64 u0.ty))] St0).bind fun p144 => openInt p144.1 fun a145 => (some [(.v (.int .i64 a145))])))).bind fun vs146 => openHd vs146 fun y147 r148 => openInt y147 fun a149 => (some ((.v (.int .i64 a149)), St0)))
 (((run kt (.func 196 [] []) [(.v (.bool false)), (.v (.int .i64 u0.ty))] St0).bind fun p150 => openInt p150.1 fun a151 => (some [(.v (.int .i64 a151))])).bind fun vs152 => openHd vs152 fun y153 r154 => openInt y153 fun a155 => (some ((.v (.int .i64 a155)), St0)))))))))))))))))))))))))))) := by kernel_rfl
theorem fn197 : fnsK 197 = some (compF Tryz.f197) := by kernel_rfl
def h198 : H := { hh with live := fun b => match b with  | _ => [], keep := fun b => match b with | 9 => some [(7, 2), (8, 2)] | 25 => some [(6, 1)] | 54 => some [(53, 2)] | 62 => some [(53, 2)] | 70 => some [(6, 1)] | 80 => some [(79, 2)] | 88 => some [(6, 1)] | 101 => some [(100, 2)] | 109 => some [(6, 1)] | 121 => some [(120, 2)] | 129 => some [(6, 1)] | 139 => some [(138, 2)] | 147 => some [(6, 1)] | _ => none }
theorem tell198 (N : Nat) (u0 : T55) (u1 : Int) (u2 : Int) : cBody (kt.at 198) h198 (run kt) N (compF Tryz.f198) [.agg u0.enc, .v (.int .i64 u1), .v (.int .i64 u2)] St0 = ((splitB (.v (.bool (u1 == (32 : Int))))
 ((splitB (.v (.bool (u1 == (128 : Int))))
 ((some [(.v (.bool (u2 == (32 : Int)))), (.v (.bool (u2 == (128 : Int))))]))
 ((some [(.v (.bool (u2 == (32 : Int)))), (.v (.bool false))]))))
 ((splitB (.v (.bool (u1 == (128 : Int))))
 ((some [(.v (.bool false)), (.v (.bool (u2 == (128 : Int))))]))
 ((some [(.v (.bool false)), (.v (.bool false))])))))).bind fun vs0 => openHd vs0 fun y1 r2 => openBool y1 fun b3 => openHd r2 fun y4 r5 => openBool y4 fun b6 => (splitB (.v (.bool (u0.op == (30 : Int))))
 (((splitB (.v (.bool (decide (u0.off ≥ (0 : Int)))))
 ((splitB (.v (.bool (decide (u0.off < (4 : Int)))))
 ((splitB (.v (.bool (u1 == (128 : Int))))
 ((splitB (.v (.bool (u2 == (32 : Int))))
 ((run kt (.func 196 [] []) [(.v (.bool (u0.ty == (128 : Int)))), (.v (.int .i64 u0.ty))] St0).bind fun p7 => openInt p7.1 fun a8 => (some [(.v (.int .i64 a8))]))
 ((run kt (.func 196 [] []) [(.v (.bool false)), (.v (.int .i64 u0.ty))] St0).bind fun p9 => openInt p9.1 fun a10 => (some [(.v (.int .i64 a10))]))))
 ((run kt (.func 196 [] []) [(.v (.bool false)), (.v (.int .i64 u0.ty))] St0).bind fun p11 => openInt p11.1 fun a12 => (some [(.v (.int .i64 a12))]))))
 ((run kt (.func 196 [] []) [(.v (.bool false)), (.v (.int .i64 u0.ty))] St0).bind fun p13 => openInt p13.1 fun a14 => (some [(.v (.int .i64 a14))]))))
 ((run kt (.func 196 [] []) [(.v (.bool false)), (.v (.int .i64 u0.ty))] St0).bind fun p15 => openInt p15.1 fun a16 => (some [(.v (.int .i64 a16))])))).bind fun vs17 => openHd vs17 fun y18 r19 => openInt y18 fun a20 => (some ((.v (.int .i64 a20)), St0)))
 ((splitB (.v (.bool (u0.off != (0 : Int))))
 ((some ((.v (.int .i64 (0 : Int))), St0)))
 (((splitB (.v (.bool (decide (u0.op ≥ (1 : Int)))))
 ((some [(.v (.bool (decide (u0.op ≤ (7 : Int)))))]))
 ((some [(.v (.bool false))])))).bind fun vs21 => openHd vs21 fun y22 r23 => openBool y22 fun b24 => (splitB (.v (.bool b24))
 (((splitB (.v (.bool b3))
 ((run kt (.func 196 [] []) [(.v (.bool (u0.ty == (32 : Int)))), (.v (.int .i64 u0.ty))] St0).bind fun p25 => openInt p25.1 fun a26 => (some [(.v (.int .i64 a26))]))
 ((run kt (.func 196 [] []) [(.v (.bool false)), (.v (.int .i64 u0.ty))] St0).bind fun p27 => openInt p27.1 fun a28 => (some [(.v (.int .i64 a28))])))).bind fun vs29 => openHd vs29 fun y30 r31 => openInt y30 fun a32 => (some ((.v (.int .i64 a32)), St0)))
 (((splitB (.v (.bool (decide (u0.op ≥ (11 : Int)))))
 ((some [(.v (.bool (decide (u0.op ≤ (13 : Int)))))]))
 ((some [(.v (.bool false))])))).bind fun vs33 => openHd vs33 fun y34 r35 => openBool y34 fun b36 => (splitB (.v (.bool b36))
 (((splitB (.v (.bool b3))
 ((run kt (.func 196 [] []) [(.v (.bool (u0.ty == (32 : Int)))), (.v (.int .i64 u0.ty))] St0).bind fun p37 => openInt p37.1 fun a38 => (some [(.v (.int .i64 a38))]))
 ((run kt (.func 196 [] []) [(.v (.bool false)), (.v (.int .i64 u0.ty))] St0).bind fun p39 => openInt p39.1 fun a40 => (some [(.v (.int .i64 a40))])))).bind fun vs41 => openHd vs41 fun y42 r43 => openInt y42 fun a44 => (some ((.v (.int .i64 a44)), St0)))
 (((splitB (.v (.bool (decide (u0.op ≥ (8 : Int)))))
 ((some [(.v (.bool (decide (u0.op ≤ (10 : Int)))))]))
 ((some [(.v (.bool false))])))).bind fun vs45 => openHd vs45 fun y46 r47 => openBool y46 fun b48 => (splitB (.v (.bool b48))
 (((splitB (.v (.bool (u1 == u2)))
 ((run kt (.func 196 [] []) [(.v (.bool (u0.ty == u1))), (.v (.int .i64 u0.ty))] St0).bind fun p49 => openInt p49.1 fun a50 => (some [(.v (.int .i64 a50))]))
 ((run kt (.func 196 [] []) [(.v (.bool false)), (.v (.int .i64 u0.ty))] St0).bind fun p51 => openInt p51.1 fun a52 => (some [(.v (.int .i64 a52))])))).bind fun vs53 => openHd vs53 fun y54 r55 => openInt y54 fun a56 => (some ((.v (.int .i64 a56)), St0)))
 (((splitB (.v (.bool (u0.op == (14 : Int))))
 ((some [(.v (.bool true))]))
 ((some [(.v (.bool (u0.op == (15 : Int))))])))).bind fun vs57 => openHd vs57 fun y58 r59 => openBool y58 fun b60 => (splitB (.v (.bool b60))
 (((splitB (.v (.bool (u1 == u2)))
 ((run kt (.func 196 [] []) [(.v (.bool (u0.ty == (1 : Int)))), (.v (.int .i64 u0.ty))] St0).bind fun p61 => openInt p61.1 fun a62 => (some [(.v (.int .i64 a62))]))
 ((run kt (.func 196 [] []) [(.v (.bool false)), (.v (.int .i64 u0.ty))] St0).bind fun p63 => openInt p63.1 fun a64 => (some [(.v (.int .i64 a64))])))).bind fun vs65 => openHd vs65 fun y66 r67 => openInt y66 fun a68 => (some ((.v (.int .i64 a68)), St0)))
 (((splitB (.v (.bool (decide (u0.op ≥ (16 : Int)))))
 ((some [(.v (.bool (decide (u0.op ≤ (19 : Int)))))]))
 ((some [(.v (.bool false))])))).bind fun vs69 => openHd vs69 fun y70 r71 => openBool y70 fun b72 => (splitB (.v (.bool b72))
 (((splitB (.v (.bool b3))
 ((run kt (.func 196 [] []) [(.v (.bool (u0.ty == (1 : Int)))), (.v (.int .i64 u0.ty))] St0).bind fun p73 => openInt p73.1 fun a74 => (some [(.v (.int .i64 a74))]))
 ((run kt (.func 196 [] []) [(.v (.bool false)), (.v (.int .i64 u0.ty))] St0).bind fun p75 => openInt p75.1 fun a76 => (some [(.v (.int .i64 a76))])))).bind fun vs77 => openHd vs77 fun y78 r79 => openInt y78 fun a80 => (some ((.v (.int .i64 a80)), St0)))
 (((splitB (.v (.bool (decide (u0.op ≥ (20 : Int)))))
 ((some [(.v (.bool (decide (u0.op ≤ (29 : Int)))))]))
 ((some [(.v (.bool false))])))).bind fun vs81 => openHd vs81 fun y82 r83 => openBool y82 fun b84 => (splitB (.v (.bool b84))
 (((splitB (.v (.bool b6))
 ((run kt (.func 196 [] []) [(.v (.bool (u0.ty == (128 : Int)))), (.v (.int .i64 u0.ty))] St0).bind fun p85 => openInt p85.1 fun a86 => (some [(.v (.int .i64 a86))]))
 ((run kt (.func 196 [] []) [(.v (.bool false)), (.v (.int .i64 u0.ty))] St0).bind fun p87 => openInt p87.1 fun a88 => (some [(.v (.int .i64 a88))])))).bind fun vs89 => openHd vs89 fun y90 r91 => openInt y90 fun a92 => (some ((.v (.int .i64 a92)), St0)))
 ((some ((.v (.int .i64 (0 : Int))), St0)))))))))))))))))) := by kernel_rfl
theorem fn198 : fnsK 198 = some (compF Tryz.f198) := by kernel_rfl
def h199 : H := { hh with live := fun b => match b with  | _ => [], keep := fun b => match b with  | _ => none }
theorem tell199 (N : Nat) (u0 : Int) : cBody (kt.at 199) h199 (run kt) N (compF Tryz.f199) [.v (.int .i64 u0)] St0 = (some ((.v (.bool (u0 != (32 : Int)))), St0)) := by kernel_rfl
theorem fn199 : fnsK 199 = some (compF Tryz.f199) := by kernel_rfl
def h119 : H := { hh with live := fun b => match b with  | _ => [], keep := fun b => match b with | 8 => some [(32, 2)] | 38 => some [(79, 2)] | _ => none }
theorem tell119 (N : Nat) (n0 : Nat) (k0 : List SV) (u1 : T28) : cBody (kt.at 119) h119 (run kt) N (compF Tryz.f119) [.sl none n0 k0, .agg u1.enc] St0 = (splitB (.v (.bool (decide (u1.tmp ≥ (0 : Int)))))
 (((splitB (.v (.bool (decide (u1.tmp ≥ ((n0 : Nat) : Int)))))
 ((some [(.v (.bool true))]))
 ((splitB (.v (.bool (u1.ty != (0 : Int))))
 ((some [(.v (.bool true))]))
 ((splitB (.v (.bool (!((u1.c0 == (0 : Int)) && ((u1.c1 == (0 : Int)) && ((u1.c2 == (0 : Int)) && ((u1.c3 == (0 : Int)) && true)))))))
 ((some [(.v (.bool true))]))
 ((indexAddrE (kt.at 119) 22 (.sl none n0 k0) (.v (.int .i64 u1.tmp))).bind fun r0 => (loadE (kt.at 119) 3 r0 St0).bind fun r1 => openInt r1 fun a2 => (run kt (.func 111 [] []) [(.v (.int .i64 a2))] St0).bind fun p3 => openInt p3.1 fun a4 => (some [(.v (.bool (a4 == (0 : Int))))])))))))).bind fun vs5 => openHd vs5 fun y6 r7 => openBool y6 fun b8 => (splitB (.v (.bool b8))
 ((some ((.v (.int .i64 (0 : Int))), St0)))
 ((indexAddrE (kt.at 119) 22 (.sl none n0 k0) (.v (.int .i64 u1.tmp))).bind fun r9 => (loadE (kt.at 119) 3 r9 St0).bind fun r10 => openInt r10 fun a11 => (some ((.v (.int .i64 a11)), St0)))))
 (((splitB (.v (.bool (u1.tmp != (-(1 : Int)))))
 ((some [(.v (.bool true))]))
 ((run kt (.func 111 [] []) [(.v (.int .i64 u1.ty))] St0).bind fun p12 => openInt p12.1 fun a13 => (splitB (.v (.bool (a13 == (0 : Int))))
 ((some [(.v (.bool true))]))
 ((splitB (.v (.bool (decide (u1.ty < (128 : Int)))))
 ((splitB (.v (.bool (u1.c1 != (0 : Int))))
 ((some [(.v (.bool true))]))
 ((splitB (.v (.bool (u1.c2 != (0 : Int))))
 ((some [(.v (.bool true))]))
 ((splitB (.v (.bool (u1.c3 != (0 : Int))))
 ((some [(.v (.bool true))]))
 ((binE (kt.at 119) .shr 199 (.v (.int .u64 (IntKind.wrap .u64 u1.c0))) (.v (.int .i64 u1.ty))).bind fun r14 => (binE (kt.at 119) .neq 199 r14 (.v (.int .u64 (0 : Int)))).bind fun r15 => (some [r15]))))))))
 ((some [(.v (.bool false))])))))))).bind fun vs16 => openHd vs16 fun y17 r18 => openBool y17 fun b19 => (splitB (.v (.bool b19))
 ((some ((.v (.int .i64 (0 : Int))), St0)))
 ((some ((.v (.int .i64 u1.ty)), St0)))))) := by kernel_rfl
theorem fn119 : fnsK 119 = some (compF Tryz.f119) := by kernel_rfl
def h161 : H := { hh with live := fun b => match b with  | _ => [], keep := fun b => match b with  | _ => none }
theorem tell161 (N : Nat) (n0 : Nat) (k0 : List SV) (n1 : Nat) (k1 : List SV) : cBody (kt.at 161) h161 (run kt) N (compF Tryz.f161) [.sl none n0 k0, .sl none n1 k1] St0 = (run kt (.func 200 [] []) [(.sl none n1 k1), (.func 201 [] [(.cp [(.sl none n0 k0)])])] St0).bind fun p0 => (some (p0.1, p0.2)) := by kernel_rfl
theorem fn161 : fnsK 161 = some (compF Tryz.f161) := by kernel_rfl
def h200 : H := { hh with live := fun b => match b with | 0 => [(5, 0), (10, 1)] | _ => [], keep := fun b => match b with  | _ => none }
theorem tell200 (N : Nat) (n0 : Nat) (k0 : List SV) (g1 : Nat) (f1 x1 : List SV) : cBody (kt.at 200) h200 (run kt) N (compF Tryz.f200) [.sl none n0 k0, .func g1 f1 x1] St0 = (iter (fun vs0 S1 => openHd vs0 fun y2 r3 => openHd r3 fun y4 r5 => openInt y4 fun a6 => (splitB (.v (.bool (decide (a6 < ((n0 : Nat) : Int)))))
 ((indexAddrE (kt.at 200) 53 (.sl none n0 k0) (.v (.int .i64 a6))).bind fun r7 => openCp cd28 r7 fun t8 => storeK (kt.at 200) 28 (.ptr (St.next S1) 0) (.agg t8.enc) (St.alloc S1 (.cells [(.v (.int .i64 (0 : Int))), (.v (.int .i64 (0 : Int))), (.v (.int .u32 (0 : Int))), (.v (.int .u32 (0 : Int))), (.v (.int .u32 (0 : Int))), (.v (.int .u32 (0 : Int)))])) fun S9 => (loadE (kt.at 200) 28 (.ptr (St.next S1) 0) S9).bind fun r10 => openAgg cd28 r10 fun t11 => (run kt (.func g1 f1 x1) [(.agg t11.enc)] S9).bind fun p12 => openInt p12.1 fun a13 => (appendE (kt.at 200) 22 y2 (.sl (some (St.next p12.2)) 1 [(.v (.int .i64 a13))]) (St.alloc p12.2 (.own 1 1))).bind fun p14 => (some (.normal, ([p14.1, (.v (.int .i64 (IntKind.wrap .i64 (a6 + (1 : Int)))))], p14.2))))
 ((some ((.exit 0), ([y2, (.v (.int .i64 a6))], S1)))))) N [(.v (.slice none 0 0)), (.v (.int .i64 (0 : Int)))] St0).bind fun q15 => openHd q15.2.1 fun y16 r17 => openHd r17 fun y18 r19 => openInt y18 fun a20 => (exits q15.1 (fun i21 => (if i21 = 0 then (some (y16, q15.2.2)) else none)) ((some ((.v (.slice none 0 0)), q15.2.2)))) := by kernel_rfl
theorem fn200 : fnsK 200 = some (compF Tryz.f200) := by kernel_rfl
def h201 : H := { hh with live := fun b => match b with  | _ => [], keep := fun b => match b with  | _ => none }
theorem tell201 (N : Nat) (u0 : T28) (c0 : SV) : cBody (kt.at 201) h201 (run kt) N (compF Tryz.f201) [.agg u0.enc, c0] St0 = (loadE (kt.at 201) 22 c0 St0).bind fun r0 => (run kt (.func 119 [] []) [r0, (.agg u0.enc)] St0).bind fun p1 => openInt p1.1 fun a2 => (some ((.v (.int .i64 a2)), p1.2)) := by kernel_rfl
theorem fn201 : fnsK 201 = some (compF Tryz.f201) := by kernel_rfl
def h118 : H := { hh with live := fun b => match b with  | _ => [], keep := fun b => match b with | 3 => some [(10, 2)] | _ => none }
theorem tell118 (N : Nat) (u0 : T57) : cBody (kt.at 118) h118 (run kt) N (compF Tryz.f118) [.agg u0.enc] St0 = ((splitB (.v (.bool (u0.kind == (2 : Int))))
 ((some [(.v (.bool true))]))
 ((some [(.v (.bool (u0.kind == (5 : Int))))])))).bind fun vs0 => openHd vs0 fun y1 r2 => openBool y1 fun b3 => (splitB (.v (.bool b3))
 ((some ((.v (.int .i64 u0.tmp)), St0)))
 ((some ((.v (.int .i64 (-(1 : Int)))), St0)))) := by kernel_rfl
theorem fn118 : fnsK 118 = some (compF Tryz.f118) := by kernel_rfl
end Go.Sv
end
