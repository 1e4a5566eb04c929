/- Parts of the proofs of this seat's laws. -/
import Derived.Test.YtkflapebfmcmaaaGreatBOnce27
import Derived.Test.YtkflapebfmcmaaaGreatBOnce34
section
namespace Go.Sv
open Go Go.Proofs
set_option linter.all false
set_option maxRecDepth 1000000
set_option maxHeartbeats 0
def h115 : H := { hh with live := fun b => match b with  | _ => [], keep := fun b => match b with | 15 => some [(27, 2)] | 40 => some [(8, 2)] | 60 => some [(8, 2)] | 91 => some [(8, 2)] | 105 => some [(8, 2)] | 123 => some [(8, 2)] | 171 => some [(8, 2)] | 195 => some [(8, 2)] | 229 => some [(8, 2)] | 248 => some [(4, 2)] | _ => none }
theorem tell115 (N : Nat) (n0 : Nat) (k0 : List SV) (u1 : T57) : cBody (kt.at 115) h115 (run kt) N (compF Tryz.f115) [.sl none n0 k0, .agg u1.enc] St0 = (run kt (.func 161 [] []) [(.sl none n0 k0), u1.l] St0).bind fun p0 => storeK (kt.at 115) 22 (.ptr (St.next p0.2) 0) p0.1 (St.alloc p0.2 (.cells [(.v (.slice none 0 0))])) fun S1 => ((loadE (kt.at 115) 22 (.ptr (St.next p0.2) 0) S1).bind fun r2 => (run kt (.func 162 [] []) [r2, (.v (.int .i64 (0 : Int)))] S1).bind fun p3 => openBool p3.1 fun b4 => (splitB (.v (.bool b4))
 ((some [(.v (.bool true))]))
 ((splitB (.v (.bool (u1.kind != (2 : Int))))
 ((run kt (.func 163 [] []) [(.agg [(.v (.int .i64 u1.e_Kind)), (.v (.int .i64 u1.e_Ty)), (.v (.int .i64 u1.e_Op)), (.v (.int .i64 u1.e_Off)), u1.e_L])] p3.2).bind fun p5 => openBool p5.1 fun b6 => (some [(.v (.bool (!b6)))]))
 ((some [(.v (.bool false))])))))).bind fun vs7 => openHd vs7 fun y8 r9 => openBool y8 fun b10 => (splitB (.v (.bool b10))
 ((some ((.v (.bool false)), S1)))
 (storeK (kt.at 115) 57 (.ptr (St.next S1) 0) (.agg u1.enc) (St.alloc S1 (.cells [(.v (.int .i64 (0 : Int))), (.v (.int .i64 (0 : Int))), (.v (.int .i64 (0 : Int))), (.v (.int .i64 (0 : Int))), (.v (.int .i64 (0 : Int))), (.v (.int .u32 (0 : Int))), (.v (.int .u32 (0 : Int))), (.v (.int .i64 (0 : Int))), (.v (.int .i64 (0 : Int))), (.v (.int .i64 (0 : Int))), (.v (.int .i64 (0 : Int))), (.v (.slice none 0 0)), (.v (.slice none 0 0))])) fun S11 => storeK (kt.at 115) 55 (.ptr (St.next S1) 7) (.agg [(.v (.int .i64 (0 : Int))), (.v (.int .i64 (0 : Int))), (.v (.int .i64 (0 : Int))), (.v (.int .i64 (0 : Int))), (.v (.slice none 0 0))]) S11 fun S12 => storeK (kt.at 115) 53 (.ptr (St.next S1) 12) (.v (.slice none 0 0)) S12 fun S13 => storeK (kt.at 115) 3 (.ptr (St.next S1) 0) (.v (.int .i64 (0 : Int))) S13 fun S14 => (splitB (.v (.bool (u1.kind == (1 : Int))))
 (storeK (kt.at 115) 24 (.ptr (St.next S1) 5) (.v (.int .u32 (0 : Int))) S14 fun S15 => storeK (kt.at 115) 3 (.ptr (St.next S1) 3) (.v (.int .i64 (0 : Int))) S15 fun S16 => ((loadE (kt.at 115) 22 (.ptr (St.next p0.2) 0) S16).bind fun r17 => (lenE (kt.at 115) 22 r17).bind fun r18 => openInt r18 fun a19 => (splitB (.v (.bool (a19 == (0 : Int))))
 ((splitB (.v (.bool (u1.n == (4 : Int))))
 ((some [(.v (.bool true))]))
 ((some [(.v (.bool (u1.n == (8 : Int))))]))))
 ((some [(.v (.bool false))])))).bind fun vs20 => openHd vs20 fun y21 r22 => openBool y21 fun b23 => ((splitB (.v (.bool b23))
 ((loadE (kt.at 115) 3 (.ptr (St.next S1) 1) S16).bind fun r24 => openInt r24 fun a25 => (splitB (.v (.bool (a25 == (0 : Int))))
 ((loadE (kt.at 115) 3 (.ptr (St.next S1) 2) S16).bind fun r26 => openInt r26 fun a27 => (splitB (.v (.bool (a27 == (0 : Int))))
 ((loadE (kt.at 115) 3 (.ptr (St.next S1) 3) S16).bind fun r28 => openInt r28 fun a29 => (splitB (.v (.bool (a29 == (0 : Int))))
 ((loadE (kt.at 115) 3 (.ptr (St.next S1) 4) S16).bind fun r30 => openInt r30 fun a31 => (splitB (.v (.bool (a31 == (0 : Int))))
 ((loadE (kt.at 115) 24 (.ptr (St.next S1) 5) S16).bind fun r32 => (binE (kt.at 115) .eql 24 r32 (.v (.int .u32 (0 : Int)))).bind fun r33 => (splitG r33
 ((loadE (kt.at 115) 24 (.ptr (St.next S1) 6) S16).bind fun r34 => (binE (kt.at 115) .eql 24 r34 (.v (.int .u32 (0 : Int)))).bind fun r35 => (some [r35]))
 ((some [(.v (.bool false))]))
 ((splitG r33
 (none)
 ((some [(.v (.bool false))]))
 ((splitG r33
 (none)
 ((some [(.v (.bool false))]))
 ((splitB r33
 ((some [(.v undef)]))
 ((some [(.v (.bool false))]))))))))))
 ((some [(.v (.bool false))]))))
 ((some [(.v (.bool false))]))))
 ((some [(.v (.bool false))]))))
 ((some [(.v (.bool false))]))))
 ((some [(.v (.bool false))])))).bind fun vs36 => openHd vs36 fun y37 r38 => openBool y37 fun b39 => (some ((.v (.bool b39)), S16)))
 ((splitB (.v (.bool (u1.kind == (2 : Int))))
 (storeK (kt.at 115) 3 (.ptr (St.next S1) 1) (.v (.int .i64 (0 : Int))) S14 fun S40 => (run kt (.func 157 [] []) [(.sl none n0 k0), (.agg [(.v (.int .i64 u1.e_Kind)), (.v (.int .i64 u1.e_Ty)), (.v (.int .i64 u1.e_Op)), (.v (.int .i64 u1.e_Off)), u1.e_L])] S40).bind fun p41 => openInt p41.1 fun a42 => ((loadE (kt.at 115) 22 (.ptr (St.next p0.2) 0) p41.2).bind fun r43 => (lenE (kt.at 115) 22 r43).bind fun r44 => openInt r44 fun a45 => (splitB (.v (.bool (a45 == (0 : Int))))
 ((splitB (.v (.bool (a42 != (0 : Int))))
 ((splitB (.v (.bool (decide (u1.tmp ≥ (0 : Int)))))
 ((splitB (.v (.bool (decide (u1.tmp < ((n0 : Nat) : Int)))))
 ((indexAddrE (kt.at 115) 22 (.sl none n0 k0) (.v (.int .i64 u1.tmp))).bind fun r46 => (loadE (kt.at 115) 3 r46 p41.2).bind fun r47 => openInt r47 fun a48 => (some [(.v (.bool (a48 == a42)))]))
 ((some [(.v (.bool false))]))))
 ((some [(.v (.bool false))]))))
 ((some [(.v (.bool false))]))))
 ((some [(.v (.bool false))])))).bind fun vs49 => openHd vs49 fun y50 r51 => openBool y50 fun b52 => ((splitB (.v (.bool b52))
 ((loadE (kt.at 115) 3 (.ptr (St.next S1) 1) p41.2).bind fun r53 => openInt r53 fun a54 => (splitB (.v (.bool (a54 == (0 : Int))))
 ((loadE (kt.at 115) 3 (.ptr (St.next S1) 2) p41.2).bind fun r55 => openInt r55 fun a56 => (splitB (.v (.bool (a56 == (0 : Int))))
 ((loadE (kt.at 115) 3 (.ptr (St.next S1) 3) p41.2).bind fun r57 => openInt r57 fun a58 => (splitB (.v (.bool (a58 == (0 : Int))))
 ((loadE (kt.at 115) 3 (.ptr (St.next S1) 4) p41.2).bind fun r59 => openInt r59 fun a60 => (splitB (.v (.bool (a60 == (0 : Int))))
 ((loadE (kt.at 115) 24 (.ptr (St.next S1) 5) p41.2).bind fun r61 => (binE (kt.at 115) .eql 24 r61 (.v (.int .u32 (0 : Int)))).bind fun r62 => (splitG r62
 ((loadE (kt.at 115) 24 (.ptr (St.next S1) 6) p41.2).bind fun r63 => (binE (kt.at 115) .eql 24 r63 (.v (.int .u32 (0 : Int)))).bind fun r64 => (some [r64]))
 ((some [(.v (.bool false))]))
 ((splitG r62
 (none)
 ((some [(.v (.bool false))]))
 ((splitG r62
 (none)
 ((some [(.v (.bool false))]))
 ((splitB r62
 ((some [(.v undef)]))
 ((some [(.v (.bool false))]))))))))))
 ((some [(.v (.bool false))]))))
 ((some [(.v (.bool false))]))))
 ((some [(.v (.bool false))]))))
 ((some [(.v (.bool false))]))))
 ((some [(.v (.bool false))])))).bind fun vs65 => openHd vs65 fun y66 r67 => openBool y66 fun b68 => (some ((.v (.bool b68)), p41.2)))
 ((splitB (.v (.bool (u1.kind == (3 : Int))))
 (storeK (kt.at 115) 3 (.ptr (St.next S1) 2) (.v (.int .i64 (0 : Int))) S14 fun S69 => ((if (St.next p0.2) < (St.next S69) then (loadE (kt.at 115) 22 (.ptr (St.next p0.2) 0) S69).bind fun r70 => (lenE (kt.at 115) 22 r70).bind fun r71 => openInt r71 fun a72 => (splitB (.v (.bool (a72 == (1 : Int))))
 ((if (St.next p0.2) < (St.next S69) then (loadE (kt.at 115) 22 (.ptr (St.next p0.2) 0) S69).bind fun r73 => (indexAddrE (kt.at 115) 22 r73 (.v (.int .i64 (0 : Int)))).bind fun r74 => loadK (kt.at 115) (St.next S69) 3 r74 S69 fun r75 => openInt r75 fun a76 => (run kt (.func 165 [] []) [(.v (.int .i64 u1.off)), (.v (.int .i64 a76))] S69).bind fun p77 => openBool p77.1 fun b78 => (some [(.v (.bool b78))]) else none))
 ((if (decide ((St.next p0.2) < (St.next S69))) = true then (some [(.v (.bool false))]) else none))) else none)).bind fun vs79 => openHd vs79 fun y80 r81 => openBool y80 fun b82 => ((splitB (.v (.bool b82))
 ((loadE (kt.at 115) 3 (.ptr (St.next S1) 1) S69).bind fun r83 => openInt r83 fun a84 => (splitB (.v (.bool (a84 == (0 : Int))))
 ((loadE (kt.at 115) 3 (.ptr (St.next S1) 2) S69).bind fun r85 => openInt r85 fun a86 => (splitB (.v (.bool (a86 == (0 : Int))))
 ((loadE (kt.at 115) 3 (.ptr (St.next S1) 3) S69).bind fun r87 => openInt r87 fun a88 => (splitB (.v (.bool (a88 == (0 : Int))))
 ((loadE (kt.at 115) 3 (.ptr (St.next S1) 4) S69).bind fun r89 => openInt r89 fun a90 => (splitB (.v (.bool (a90 == (0 : Int))))
 ((loadE (kt.at 115) 24 (.ptr (St.next S1) 5) S69).bind fun r91 => (binE (kt.at 115) .eql 24 r91 (.v (.int .u32 (0 : Int)))).bind fun r92 => (splitG r92
 ((loadE (kt.at 115) 24 (.ptr (St.next S1) 6) S69).bind fun r93 => (binE (kt.at 115) .eql 24 r93 (.v (.int .u32 (0 : Int)))).bind fun r94 => (some [r94]))
 ((some [(.v (.bool false))]))
 ((splitG r92
 (none)
 ((some [(.v (.bool false))]))
 ((splitG r92
 (none)
 ((some [(.v (.bool false))]))
 ((splitB r92
 ((some [(.v undef)]))
 ((some [(.v (.bool false))]))))))))))
 ((some [(.v (.bool false))]))))
 ((some [(.v (.bool false))]))))
 ((some [(.v (.bool false))]))))
 ((some [(.v (.bool false))]))))
 ((some [(.v (.bool false))])))).bind fun vs95 => openHd vs95 fun y96 r97 => openBool y96 fun b98 => (some ((.v (.bool b98)), S69)))
 ((splitB (.v (.bool (u1.kind == (4 : Int))))
 ((loadE (kt.at 115) 22 (.ptr (St.next p0.2) 0) S14).bind fun r99 => (lenE (kt.at 115) 22 r99).bind fun r100 => openInt r100 fun a101 => (splitB (.v (.bool (a101 == (2 : Int))))
 ((run kt (.func 164 [] [(.ptr (St.next p0.2) 0)]) [(.v (.int .i64 (0 : Int)))] S14).bind fun p102 => openBool p102.1 fun b103 => (splitB (.v (.bool b103))
 ((loadE (kt.at 115) 22 (.ptr (St.next p0.2) 0) p102.2).bind fun r104 => (indexAddrE (kt.at 115) 22 r104 (.v (.int .i64 (1 : Int)))).bind fun r105 => (loadE (kt.at 115) 3 r105 p102.2).bind fun r106 => openInt r106 fun a107 => (run kt (.func 166 [] []) [(.v (.int .i64 a107))] p102.2).bind fun p108 => openBool p108.1 fun b109 => ((splitB (.v (.bool b109))
 ((loadE (kt.at 115) 3 (.ptr (St.next S1) 1) p108.2).bind fun r110 => openInt r110 fun a111 => (splitB (.v (.bool (a111 == (0 : Int))))
 ((loadE (kt.at 115) 3 (.ptr (St.next S1) 2) p108.2).bind fun r112 => openInt r112 fun a113 => (splitB (.v (.bool (a113 == (0 : Int))))
 ((loadE (kt.at 115) 3 (.ptr (St.next S1) 3) p108.2).bind fun r114 => openInt r114 fun a115 => (splitB (.v (.bool (a115 == (0 : Int))))
 ((loadE (kt.at 115) 3 (.ptr (St.next S1) 4) p108.2).bind fun r116 => openInt r116 fun a117 => (splitB (.v (.bool (a117 == (0 : Int))))
 ((loadE (kt.at 115) 24 (.ptr (St.next S1) 5) p108.2).bind fun r118 => (binE (kt.at 115) .eql 24 r118 (.v (.int .u32 (0 : Int)))).bind fun r119 => (splitG r119
 ((loadE (kt.at 115) 24 (.ptr (St.next S1) 6) p108.2).bind fun r120 => (binE (kt.at 115) .eql 24 r120 (.v (.int .u32 (0 : Int)))).bind fun r121 => (some [r121]))
 ((some [(.v (.bool false))]))
 ((splitG r119
 (none)
 ((some [(.v (.bool false))]))
 ((splitG r119
 (none)
 ((some [(.v (.bool false))]))
 ((splitB r119
 ((some [(.v undef)]))
 ((some [(.v (.bool false))]))))))))))
 ((some [(.v (.bool false))]))))
 ((some [(.v (.bool false))]))))
 ((some [(.v (.bool false))]))))
 ((some [(.v (.bool false))]))))
 ((some [(.v (.bool false))])))).bind fun vs122 => openHd vs122 fun y123 r124 => openBool y123 fun b125 => (some ((.v (.bool b125)), p108.2)))
 (((some [(.v (.bool false))])).bind fun vs126 => openHd vs126 fun y127 r128 => openBool y127 fun b129 => (some ((.v (.bool b129)), p102.2)))))
 (((some [(.v (.bool false))])).bind fun vs130 => openHd vs130 fun y131 r132 => openBool y131 fun b133 => (some ((.v (.bool b133)), S14)))))
 ((splitB (.v (.bool (u1.kind == (6 : Int))))
 ((loadE (kt.at 115) 22 (.ptr (St.next p0.2) 0) S14).bind fun r134 => (lenE (kt.at 115) 22 r134).bind fun r135 => openInt r135 fun a136 => (splitB (.v (.bool (a136 == (2 : Int))))
 ((run kt (.func 164 [] [(.ptr (St.next p0.2) 0)]) [(.v (.int .i64 (0 : Int)))] S14).bind fun p137 => openBool p137.1 fun b138 => (splitB (.v (.bool b138))
 ((loadE (kt.at 115) 22 (.ptr (St.next p0.2) 0) p137.2).bind fun r139 => (indexAddrE (kt.at 115) 22 r139 (.v (.int .i64 (1 : Int)))).bind fun r140 => (loadE (kt.at 115) 3 r140 p137.2).bind fun r141 => openInt r141 fun a142 => (run kt (.func 166 [] []) [(.v (.int .i64 a142))] p137.2).bind fun p143 => openBool p143.1 fun b144 => ((splitB (.v (.bool b144))
 ((loadE (kt.at 115) 3 (.ptr (St.next S1) 1) p143.2).bind fun r145 => openInt r145 fun a146 => (splitB (.v (.bool (a146 == (0 : Int))))
 ((loadE (kt.at 115) 3 (.ptr (St.next S1) 2) p143.2).bind fun r147 => openInt r147 fun a148 => (splitB (.v (.bool (a148 == (0 : Int))))
 ((loadE (kt.at 115) 3 (.ptr (St.next S1) 3) p143.2).bind fun r149 => openInt r149 fun a150 => (splitB (.v (.bool (a150 == (0 : Int))))
 ((loadE (kt.at 115) 3 (.ptr (St.next S1) 4) p143.2).bind fun r151 => openInt r151 fun a152 => (splitB (.v (.bool (a152 == (0 : Int))))
 ((loadE (kt.at 115) 24 (.ptr (St.next S1) 5) p143.2).bind fun r153 => (binE (kt.at 115) .eql 24 r153 (.v (.int .u32 (0 : Int)))).bind fun r154 => (splitG r154
 ((loadE (kt.at 115) 24 (.ptr (St.next S1) 6) p143.2).bind fun r155 => (binE (kt.at 115) .eql 24 r155 (.v (.int .u32 (0 : Int)))).bind fun r156 => (some [r156]))
 ((some [(.v (.bool false))]))
 ((splitG r154
 (none)
 ((some [(.v (.bool false))]))
 ((splitG r154
 (none)
 ((some [(.v (.bool false))]))
 ((splitB r154
 ((some [(.v undef)]))
 ((some [(.v (.bool false))]))))))))))
 ((some [(.v (.bool false))]))))
 ((some [(.v (.bool false))]))))
 ((some [(.v (.bool false))]))))
 ((some [(.v (.bool false))]))))
 ((some [(.v (.bool false))])))).bind fun vs157 => openHd vs157 fun y158 r159 => openBool y158 fun b160 => (some ((.v (.bool b160)), p143.2)))
 (((some [(.v (.bool false))])).bind fun vs161 => openHd vs161 fun y162 r163 => openBool y162 fun b164 => (some ((.v (.bool b164)), p137.2)))))
 (((some [(.v (.bool false))])).bind fun vs165 => openHd vs165 fun y166 r167 => openBool y166 fun b168 => (some ((.v (.bool b168)), S14)))))
 ((splitB (.v (.bool (u1.kind == (5 : Int))))
 (storeK (kt.at 115) 3 (.ptr (St.next S1) 1) (.v (.int .i64 (0 : Int))) S14 fun S169 => storeK (kt.at 115) 3 (.ptr (St.next S1) 2) (.v (.int .i64 (0 : Int))) S169 fun S170 => ((splitB (.v (.bool (decide (u1.off ≥ (0 : Int)))))
 ((splitB (.v (.bool (decide (u1.off < ((3 : Nat) : Int)))))
 ((if (St.next p0.2) < (St.next (St.alloc S170 (.own 1 3))) then (loadE (kt.at 115) 22 (.ptr (St.next p0.2) 0) (St.alloc S170 (.own 1 3))).bind fun r171 => (lenE (kt.at 115) 22 r171).bind fun r172 => openInt r172 fun a173 => (indexAddrE (kt.at 115) 22 (.sl (some (St.next S170)) 3 [(.v (.int .i64 (3 : Int))), (.v (.int .i64 (2 : Int))), (.v (.int .i64 (2 : Int)))]) (.v (.int .i64 u1.off))).bind fun r174 => loadK (kt.at 115) (St.next (St.alloc S170 (.own 1 3))) 3 r174 (St.alloc S170 (.own 1 3)) fun r175 => openInt r175 fun a176 => (splitB (.v (.bool (a173 == a176)))
 ((splitB (.v (.bool (decide (u1.tmp ≥ (0 : Int)))))
 ((splitB (.v (.bool (decide (u1.tmp < ((n0 : Nat) : Int)))))
 ((indexAddrE (kt.at 115) 22 (.sl none n0 k0) (.v (.int .i64 u1.tmp))).bind fun r177 => loadK (kt.at 115) (St.next (St.alloc S170 (.own 1 3))) 3 r177 (St.alloc S170 (.own 1 3)) fun r178 => openInt r178 fun a179 => (splitB (.v (.bool (a179 == (32 : Int))))
 ((if (St.next p0.2) < (St.next (St.alloc S170 (.own 1 3))) then (loadE (kt.at 115) 22 (.ptr (St.next p0.2) 0) (St.alloc S170 (.own 1 3))).bind fun r180 => (run kt (.func 109 [] []) [r180, (.func 167 [] [])] (St.alloc S170 (.own 1 3))).bind fun p181 => openBool p181.1 fun b182 => (some [(.v (.bool (!b182)))]) else none))
 ((if (decide ((St.next p0.2) < (St.next (St.alloc S170 (.own 1 3))))) = true then (some [(.v (.bool false))]) else none))))
 ((if (decide ((St.next p0.2) < (St.next (St.alloc S170 (.own 1 3))))) = true then (some [(.v (.bool false))]) else none))))
 ((if (decide ((St.next p0.2) < (St.next (St.alloc S170 (.own 1 3))))) = true then (some [(.v (.bool false))]) else none))))
 ((if (decide ((St.next p0.2) < (St.next (St.alloc S170 (.own 1 3))))) = true then (some [(.v (.bool false))]) else none))) else none))
 ((if (decide ((St.next p0.2) < (St.next (St.alloc S170 (.own 1 3))))) = true then (if (decide ((St.next p0.2) < (St.next (St.alloc S170 (.own 1 3))))) = true then (some [(.v (.bool false))]) else none) else none))))
 ((if (decide ((St.next p0.2) < (St.next (St.alloc S170 (.own 1 3))))) = true then (if (decide ((St.next p0.2) < (St.next (St.alloc S170 (.own 1 3))))) = true then (some [(.v (.bool false))]) else none) else none)))).bind fun vs183 => openHd vs183 fun y184 r185 => openBool y184 fun b186 => ((splitB (.v (.bool b186))
 ((loadE (kt.at 115) 3 (.ptr (St.next S1) 1) (St.alloc S170 (.own 1 3))).bind fun r187 => openInt r187 fun a188 => (splitB (.v (.bool (a188 == (0 : Int))))
 ((loadE (kt.at 115) 3 (.ptr (St.next S1) 2) (St.alloc S170 (.own 1 3))).bind fun r189 => openInt r189 fun a190 => (splitB (.v (.bool (a190 == (0 : Int))))
 ((loadE (kt.at 115) 3 (.ptr (St.next S1) 3) (St.alloc S170 (.own 1 3))).bind fun r191 => openInt r191 fun a192 => (splitB (.v (.bool (a192 == (0 : Int))))
 ((loadE (kt.at 115) 3 (.ptr (St.next S1) 4) (St.alloc S170 (.own 1 3))).bind fun r193 => openInt r193 fun a194 => (splitB (.v (.bool (a194 == (0 : Int))))
 ((loadE (kt.at 115) 24 (.ptr (St.next S1) 5) (St.alloc S170 (.own 1 3))).bind fun r195 => (binE (kt.at 115) .eql 24 r195 (.v (.int .u32 (0 : Int)))).bind fun r196 => (splitG r196
 ((loadE (kt.at 115) 24 (.ptr (St.next S1) 6) (St.alloc S170 (.own 1 3))).bind fun r197 => (binE (kt.at 115) .eql 24 r197 (.v (.int .u32 (0 : Int)))).bind fun r198 => (some [r198]))
 ((some [(.v (.bool false))]))
 ((splitG r196
 (none)
 ((some [(.v (.bool false))]))
 ((splitG r196
 (none)
 ((some [(.v (.bool false))]))
 ((splitB r196
 ((some [(.v undef)]))
 ((some [(.v (.bool false))]))))))))))
 ((some [(.v (.bool false))]))))
 ((some [(.v (.bool false))]))))
 ((some [(.v (.bool false))]))))
 ((some [(.v (.bool false))]))))
 ((some [(.v (.bool false))])))).bind fun vs199 => openHd vs199 fun y200 r201 => openBool y200 fun b202 => (some ((.v (.bool b202)), (St.alloc S170 (.own 1 3)))))
 ((splitB (.v (.bool (u1.kind == (7 : Int))))
 (storeK (kt.at 115) 3 (.ptr (St.next S1) 3) (.v (.int .i64 (0 : Int))) S14 fun S203 => (loadE (kt.at 115) 22 (.ptr (St.next p0.2) 0) S203).bind fun r204 => (lenE (kt.at 115) 22 r204).bind fun r205 => openInt r205 fun a206 => (splitB (.v (.bool (a206 == (2 : Int))))
 ((run kt (.func 164 [] [(.ptr (St.next p0.2) 0)]) [(.v (.int .i64 (0 : Int)))] S203).bind fun p207 => openBool p207.1 fun b208 => (splitB (.v (.bool b208))
 ((run kt (.func 164 [] [(.ptr (St.next p0.2) 0)]) [(.v (.int .i64 (1 : Int)))] p207.2).bind fun p209 => openBool p209.1 fun b210 => (splitB (.v (.bool b210))
 ((splitB (.v (.bool (decide (u1.n ≥ (1 : Int)))))
 (((splitB (.v (.bool (decide (u1.n ≤ (16 : Int)))))
 ((loadE (kt.at 115) 3 (.ptr (St.next S1) 1) p209.2).bind fun r211 => openInt r211 fun a212 => (splitB (.v (.bool (a212 == (0 : Int))))
 ((loadE (kt.at 115) 3 (.ptr (St.next S1) 2) p209.2).bind fun r213 => openInt r213 fun a214 => (splitB (.v (.bool (a214 == (0 : Int))))
 ((loadE (kt.at 115) 3 (.ptr (St.next S1) 3) p209.2).bind fun r215 => openInt r215 fun a216 => (splitB (.v (.bool (a216 == (0 : Int))))
 ((loadE (kt.at 115) 3 (.ptr (St.next S1) 4) p209.2).bind fun r217 => openInt r217 fun a218 => (splitB (.v (.bool (a218 == (0 : Int))))
 ((loadE (kt.at 115) 24 (.ptr (St.next S1) 5) p209.2).bind fun r219 => (binE (kt.at 115) .eql 24 r219 (.v (.int .u32 (0 : Int)))).bind fun r220 => (splitG r220
 ((loadE (kt.at 115) 24 (.ptr (St.next S1) 6) p209.2).bind fun r221 => (binE (kt.at 115) .eql 24 r221 (.v (.int .u32 (0 : Int)))).bind fun r222 => (some [r222]))
 ((some [(.v (.bool false))]))
 ((splitG r220
 (none)
 ((some [(.v (.bool false))]))
 ((splitG r220
 (none)
 ((some [(.v (.bool false))]))
 ((splitB r220
 ((some [(.v undef)]))
 ((some [(.v (.bool false))]))))))))))
 ((some [(.v (.bool false))]))))
 ((some [(.v (.bool false))]))))
 ((some [(.v (.bool false))]))))
 ((some [(.v (.bool false))]))))
 ((some [(.v (.bool false))])))).bind fun vs223 => openHd vs223 fun y224 r225 => openBool y224 fun b226 => (some ((.v (.bool b226)), p209.2)))
 (((some [(.v (.bool false))])).bind fun vs227 => openHd vs227 fun y228 r229 => openBool y228 fun b230 => (some ((.v (.bool b230)), p209.2)))))
 (((some [(.v (.bool false))])).bind fun vs231 => openHd vs231 fun y232 r233 => openBool y232 fun b234 => (some ((.v (.bool b234)), p209.2)))))
 (((some [(.v (.bool false))])).bind fun vs235 => openHd vs235 fun y236 r237 => openBool y236 fun b238 => (some ((.v (.bool b238)), p207.2)))))
 (((some [(.v (.bool false))])).bind fun vs239 => openHd vs239 fun y240 r241 => openBool y240 fun b242 => (some ((.v (.bool b242)), S203)))))
 ((splitB (.v (.bool (u1.kind == (8 : Int))))
 (storeK (kt.at 115) 3 (.ptr (St.next S1) 3) (.v (.int .i64 (0 : Int))) S14 fun S243 => ((loadE (kt.at 115) 22 (.ptr (St.next p0.2) 0) S243).bind fun r244 => (lenE (kt.at 115) 22 r244).bind fun r245 => openInt r245 fun a246 => (splitB (.v (.bool (decide (a246 ≥ (1 : Int)))))
 ((loadE (kt.at 115) 22 (.ptr (St.next p0.2) 0) S243).bind fun r247 => (lenE (kt.at 115) 22 r247).bind fun r248 => openInt r248 fun a249 => (splitB (.v (.bool (decide (a249 ≤ (9 : Int)))))
 ((loadE (kt.at 115) 22 (.ptr (St.next p0.2) 0) S243).bind fun r250 => (indexAddrE (kt.at 115) 22 r250 (.v (.int .i64 (0 : Int)))).bind fun r251 => (loadE (kt.at 115) 3 r251 S243).bind fun r252 => openInt r252 fun a253 => (splitB (.v (.bool (a253 == (1 : Int))))
 ((loadE (kt.at 115) 22 (.ptr (St.next p0.2) 0) S243).bind fun r254 => (sliceE (kt.at 115) 22 r254 (some (.v (.int .i64 (1 : Int)))) none).bind fun r255 => (run kt (.func 109 [] []) [r255, (.func 168 [] [])] S243).bind fun p256 => openBool p256.1 fun b257 => (splitB (.v (.bool (!b257)))
 ((splitB (.v (.bool (decide (u1.n ≥ (0 : Int)))))
 ((some [(.v (.bool (decide (u1.n ≤ (1000000 : Int)))))]))
 ((some [(.v (.bool false))]))))
 ((some [(.v (.bool false))]))))
 ((some [(.v (.bool false))]))))
 ((some [(.v (.bool false))]))))
 ((some [(.v (.bool false))])))).bind fun vs258 => openHd vs258 fun y259 r260 => openBool y259 fun b261 => ((splitB (.v (.bool b261))
 ((loadE (kt.at 115) 3 (.ptr (St.next S1) 1) S243).bind fun r262 => openInt r262 fun a263 => (splitB (.v (.bool (a263 == (0 : Int))))
 ((loadE (kt.at 115) 3 (.ptr (St.next S1) 2) S243).bind fun r264 => openInt r264 fun a265 => (splitB (.v (.bool (a265 == (0 : Int))))
 ((loadE (kt.at 115) 3 (.ptr (St.next S1) 3) S243).bind fun r266 => openInt r266 fun a267 => (splitB (.v (.bool (a267 == (0 : Int))))
 ((loadE (kt.at 115) 3 (.ptr (St.next S1) 4) S243).bind fun r268 => openInt r268 fun a269 => (splitB (.v (.bool (a269 == (0 : Int))))
 ((loadE (kt.at 115) 24 (.ptr (St.next S1) 5) S243).bind fun r270 => (binE (kt.at 115) .eql 24 r270 (.v (.int .u32 (0 : Int)))).bind fun r271 => (splitG r271
 ((loadE (kt.at 115) 24 (.ptr (St.next S1) 6) S243).bind fun r272 => (binE (kt.at 115) .eql 24 r272 (.v (.int .u32 (0 : Int)))).bind fun r273 => (some [r273]))
 ((some [(.v (.bool false))]))
 ((splitG r271
 (none)
 ((some [(.v (.bool false))]))
 ((splitG r271
 (none)
 ((some [(.v (.bool false))]))
 ((splitB r271
 ((some [(.v undef)]))
 ((some [(.v (.bool false))]))))))))))
 ((some [(.v (.bool false))]))))
 ((some [(.v (.bool false))]))))
 ((some [(.v (.bool false))]))))
 ((some [(.v (.bool false))]))))
 ((some [(.v (.bool false))])))).bind fun vs274 => openHd vs274 fun y275 r276 => openBool y275 fun b277 => (some ((.v (.bool b277)), S243)))
 ((splitB (.v (.bool (u1.kind == (9 : Int))))
 (storeK (kt.at 115) 24 (.ptr (St.next S1) 6) (.v (.int .u32 (0 : Int))) S14 fun S278 => storeK (kt.at 115) 3 (.ptr (St.next S1) 4) (.v (.int .i64 (0 : Int))) S278 fun S279 => ((loadE (kt.at 115) 22 (.ptr (St.next p0.2) 0) S279).bind fun r280 => (lenE (kt.at 115) 22 r280).bind fun r281 => openInt r281 fun a282 => (splitB (.v (.bool (a282 == (1 : Int))))
 ((loadE (kt.at 115) 22 (.ptr (St.next p0.2) 0) S279).bind fun r283 => (indexAddrE (kt.at 115) 22 r283 (.v (.int .i64 (0 : Int)))).bind fun r284 => (loadE (kt.at 115) 3 r284 S279).bind fun r285 => openInt r285 fun a286 => (splitB (.v (.bool (a286 == (1 : Int))))
 ((splitB (.v (.bool (decide (u1.jump ≥ (1 : Int)))))
 ((some [(.v (.bool (decide (u1.jump ≤ (9 : Int)))))]))
 ((some [(.v (.bool false))]))))
 ((some [(.v (.bool false))]))))
 ((some [(.v (.bool false))])))).bind fun vs287 => openHd vs287 fun y288 r289 => openBool y288 fun b290 => ((splitB (.v (.bool b290))
 ((loadE (kt.at 115) 3 (.ptr (St.next S1) 1) S279).bind fun r291 => openInt r291 fun a292 => (splitB (.v (.bool (a292 == (0 : Int))))
 ((loadE (kt.at 115) 3 (.ptr (St.next S1) 2) S279).bind fun r293 => openInt r293 fun a294 => (splitB (.v (.bool (a294 == (0 : Int))))
 ((loadE (kt.at 115) 3 (.ptr (St.next S1) 3) S279).bind fun r295 => openInt r295 fun a296 => (splitB (.v (.bool (a296 == (0 : Int))))
 ((loadE (kt.at 115) 3 (.ptr (St.next S1) 4) S279).bind fun r297 => openInt r297 fun a298 => (splitB (.v (.bool (a298 == (0 : Int))))
 ((loadE (kt.at 115) 24 (.ptr (St.next S1) 5) S279).bind fun r299 => (binE (kt.at 115) .eql 24 r299 (.v (.int .u32 (0 : Int)))).bind fun r300 => (splitG r300
 ((loadE (kt.at 115) 24 (.ptr (St.next S1) 6) S279).bind fun r301 => (binE (kt.at 115) .eql 24 r301 (.v (.int .u32 (0 : Int)))).bind fun r302 => (some [r302]))
 ((some [(.v (.bool false))]))
 ((splitG r300
 (none)
 ((some [(.v (.bool false))]))
 ((splitG r300
 (none)
 ((some [(.v (.bool false))]))
 ((splitB r300
 ((some [(.v undef)]))
 ((some [(.v (.bool false))]))))))))))
 ((some [(.v (.bool false))]))))
 ((some [(.v (.bool false))]))))
 ((some [(.v (.bool false))]))))
 ((some [(.v (.bool false))]))))
 ((some [(.v (.bool false))])))).bind fun vs303 => openHd vs303 fun y304 r305 => openBool y304 fun b306 => (some ((.v (.bool b306)), S279)))
 (((some [(.v (.bool false))])).bind fun vs307 => openHd vs307 fun y308 r309 => openBool y308 fun b310 => (some ((.v (.bool b310)), S14)))))))))))))))))))))) := by kernel_rfl
theorem fn115 : fnsK 115 = some (compF Tryz.f115) := by kernel_rfl
end Go.Sv
end
section
namespace Go.Sv
open Go Go.Proofs Go.Proofs.YtkflapebfmcmaaaGreat
set_option linter.all false
set_option maxRecDepth 100000

/-! Boxes that a body writes. -/
theorem next0 : St.next St0 = 0 := rfl
theorem ag3 {k : K} (hP : k.P = Tryz.prog) : agg? k 3 = some false := agg_num hP Tryz.underlying3
theorem ag24 {k : K} (hP : k.P = Tryz.prog) : agg? k 24 = some false := agg_num hP Tryz.underlying24
theorem ag22 {k : K} (hP : k.P = Tryz.prog) : agg? k 22 = some false := by unfold agg?; rw [hP, Tryz.underlying22]
theorem ag53 {k : K} (hP : k.P = Tryz.prog) : agg? k 53 = some false := by unfold agg?; rw [hP, Tryz.underlying53]
theorem sz3 {k : K} (hP : k.P = Tryz.prog) : size? k 3 = some 1 := size_of hP size3
theorem sz24 {k : K} (hP : k.P = Tryz.prog) : size? k 24 = some 1 := size_of hP (by kernel_rfl)
theorem sz22 {k : K} (hP : k.P = Tryz.prog) : size? k 22 = some 1 := size_of hP (by kernel_rfl)
theorem sz53 {k : K} (hP : k.P = Tryz.prog) : size? k 53 = some 1 := size_of hP (by kernel_rfl)
theorem sz55 {k : K} (hP : k.P = Tryz.prog) : size? k 55 = some 5 := size_of hP (by kernel_rfl)
theorem sz57 {k : K} (hP : k.P = Tryz.prog) : size? k 57 = some 13 := size_of hP size57'

theorem ld1 {k : K} {t : TypeId} (ha : agg? k t = some false) (hs : size? k t = some 1) {S : St} {b off : Nat} {cs : List SV} (hg : S.get b = .cells cs) : loadE k t (.ptr b off) S = (cs.drop off).head? := by
  simp [loadE, ha, hs, hg, objCells, takeVal]
theorem st1 {Z : Type} {k : K} {t : TypeId} (hs : size? k t = some 1) {S : St} {b off : Nat} {cs : List SV} (hg : S.get b = .cells cs) (hf : S.floor ≤ b) (ho : off + 1 ≤ cs.length) {x : SV} (hx : single x = true) (K : St → Option Z) :
    storeK k t (.ptr b off) x S K = K (S.put b (.cells (splice cs off [x]))) := by
  simp [storeK, hs, cellsK, hx, hf, hg, ho]
theorem stN {Z : Type} {k : K} {t sz : Nat} (hs : size? k t = some sz) (h1 : sz ≠ 1) {S : St} {b off : Nat} {cs ys : List SV} (hg : S.get b = .cells cs) (hf : S.floor ≤ b) (hy : ys.length = sz) (ho : off + sz ≤ cs.length) (K : St → Option Z) :
    storeK k t (.ptr b off) (.agg ys) S K = K (S.put b (.cells (splice cs off ys))) := by
  simp [storeK, hs, cellsK, h1, hy, hf, hg, ho]
theorem put_get (S : St) (b : Nat) (o : SObj) : (S.put b o).get b = o := by simp [St.put]

/-- The state of Valid: two boxes. -/
def Q2 (L : List Int) (cs : List SV) (S : St) : Prop := S.get 1 = .cells cs ∧ S.get 0 = .cells [nums L] ∧ S.floor = 0 ∧ 2 ≤ S.next
theorem Q2.put {L : List Int} {cs : List SV} {S : St} (h : Q2 L cs S) (ds : List SV) : Q2 L ds (S.put 1 (.cells ds)) :=
  ⟨put_get _ _ _, by rw [get_put _ _ _ _ (by decide)]; exact h.2.1, h.2.2.1, h.2.2.2⟩
theorem Q2.alloc {L : List Int} {cs : List SV} {S : St} (h : Q2 L cs S) (o : SObj) : Q2 L cs (S.alloc o) :=
  ⟨by rw [get_new _ _ _ (by have := h.2.2.2; omega)]; exact h.1, by rw [get_new _ _ _ (by have := h.2.2.2; omega)]; exact h.2.1, h.2.2.1, Nat.le_succ_of_le h.2.2.2⟩
theorem Q2.st3 {L : List Int} {cs : List SV} {S : St} (h : Q2 L cs S) {off : Nat} (ho : off + 1 ≤ cs.length) (x : Int) {K : St → Option (SV × St)} {v : Bool} (e : ∀ S', Q2 L (splice cs off [.v (.int .i64 x)]) S' → ExB (K S') v) : ExB (storeK (kt.at 115) 3 (.ptr 1 off) (.v (.int .i64 x)) S K) v := by
  rw [st1 (sz3 (P_kt 115)) h.1 (by rw [h.2.2.1]; decide) ho rfl]
  exact e _ (h.put _)
theorem Q2.st24 {L : List Int} {cs : List SV} {S : St} (h : Q2 L cs S) {off : Nat} (ho : off + 1 ≤ cs.length) (x : Int) {K : St → Option (SV × St)} {v : Bool} (e : ∀ S', Q2 L (splice cs off [.v (.int .u32 x)]) S' → ExB (K S') v) : ExB (storeK (kt.at 115) 24 (.ptr 1 off) (.v (.int .u32 x)) S K) v := by
  rw [st1 (sz24 (P_kt 115)) h.1 (by rw [h.2.2.1]; decide) ho rfl]
  exact e _ (h.put _)
theorem Q2.ld {L : List Int} {cs : List SV} {S : St} (h : Q2 L cs S) : loadE (kt.at 115) 22 (.ptr 0 0) S = some (nums L) := by
  rw [ld1 (ag22 (P_kt 115)) (sz22 (P_kt 115)) h.2.1]; rfl

/-- A statement's cells without kind, expression and elements. -/
def restC (t off n j ad to : Int) : List SV := [.v (.int .i64 0), .v (.int .i64 t), .v (.int .i64 off), .v (.int .i64 n), .v (.int .i64 j), .v (.int .u32 ad), .v (.int .u32 to), .v (.int .i64 0), .v (.int .i64 0), .v (.int .i64 0), .v (.int .i64 0), .v (.slice none 0 0), .v (.slice none 0 0)]
def restB (t off n j ad to : Int) : Bool := t == 0 && (off == 0 && (n == 0 && (j == 0 && (ad == 0 && to == 0))))

theorem tailR {L : List Int} {t off n j ad to : Int} {S : St} (h : Q2 L (restC t off n j ad to) S) (b : Bool) (S' : St) : ExB (((splitB (.v (.bool b))
 ((loadE (kt.at 115) 3 (.ptr 1 1) S).bind fun r24 => openInt r24 fun a25 => (splitB (.v (.bool (a25 == (0 : Int))))
 ((loadE (kt.at 115) 3 (.ptr 1 2) S).bind fun r26 => openInt r26 fun a27 => (splitB (.v (.bool (a27 == (0 : Int))))
 ((loadE (kt.at 115) 3 (.ptr 1 3) S).bind fun r28 => openInt r28 fun a29 => (splitB (.v (.bool (a29 == (0 : Int))))
 ((loadE (kt.at 115) 3 (.ptr 1 4) S).bind fun r30 => openInt r30 fun a31 => (splitB (.v (.bool (a31 == (0 : Int))))
 ((loadE (kt.at 115) 24 (.ptr 1 5) S).bind fun r32 => (binE (kt.at 115) .eql 24 r32 (.v (.int .u32 (0 : Int)))).bind fun r33 => (splitG r33
 ((loadE (kt.at 115) 24 (.ptr 1 6) S).bind fun r34 => (binE (kt.at 115) .eql 24 r34 (.v (.int .u32 (0 : Int)))).bind fun r35 => (some [r35]))
 ((some [(.v (.bool false))]))
 ((splitG r33
 (none)
 ((some [(.v (.bool false))]))
 ((splitG r33
 (none)
 ((some [(.v (.bool false))]))
 ((splitB r33
 ((some [(.v undef)]))
 ((some [(.v (.bool false))]))))))))))
 ((some [(.v (.bool false))]))))
 ((some [(.v (.bool false))]))))
 ((some [(.v (.bool false))]))))
 ((some [(.v (.bool false))]))))
 ((some [(.v (.bool false))])))).bind fun vs36 => openHd vs36 fun y37 r38 => openBool y37 fun b39 => (some ((.v (.bool b39)), S'))) (b && restB t off n j ad to) := by
  have l3 : ∀ off, loadE (kt.at 115) 3 (.ptr 1 off) S = ((restC t _ n j ad to).drop off).head? := fun o => ld1 (ag3 (P_kt 115)) (sz3 (P_kt 115)) h.1
  have l24 : ∀ off, loadE (kt.at 115) 24 (.ptr 1 off) S = ((restC t _ n j ad to).drop off).head? := fun o => ld1 (ag24 (P_kt 115)) (sz24 (P_kt 115)) h.1
  simp only [l3, l24, restC, List.drop_succ_cons, List.drop_zero, List.head?_cons, Option.bind_some, openInt_v, eql_v, splitB_if, splitG_v]
  unfold restB
  cases b <;> cases (t == 0) <;> cases (off == 0) <;> cases (n == 0) <;> cases (j == 0) <;> cases (ad == 0) <;> exact exB _ _

theorem validK_zero (tmps : List Int) (s : Stmt) (L : List Int) (et : Int) (h : 0 ∈ L) : validK tmps s L et = false := by
  have ar : ∀ m : List Int, 0 ∉ m → areM L m = false := by
    intro m hm
    rw [areM_eq]
    have : ¬ L = m := by intro e; rw [e] at h; exact hm h
    simpa using this
  have sm : ∀ n : Int, 0 < n → sameM L n = false := by
    intro n hn
    cases e : sameM L n with
    | false => rfl
    | true => exact ((sameM_zero L n hn e).2 h).elim
  have hl : ∀ b, (decide (L.length = 0) && b) = false := by
    intro b
    match L, h with
    | x :: r, _ => simp
  unfold validK
  split
  · exact hl _
  split
  · exact hl _
  split
  · match L, h with
    | [x], h => simp at h; subst h; simp [placesM, storM, bytesM]
    | x :: y :: r, _ => simp
  split
  · match L, h with
    | [], _ => simp
    | [x], _ => simp
    | [x, y], h =>
      by_cases hx : x = 32
      · subst hx
        have : y = 0 := by simp at h; exact h.symm
        subst this
        simp [storM, bytesM]
      · simp [hx]
    | x :: y :: z :: r, _ => simp
  split
  · rw [sm _ (by split <;> decide)]; rfl
  split
  · rw [ar [32, 32] (by simp)]; rfl
  split
  · match L, h, sm with
    | [x], h, _ => simp at h; subst h; simp
    | x :: y :: r, h, _ =>
      by_cases hx : x = 1
      · subst hx
        have h' : (0 : Int) ∈ y :: r := by simpa using h
        have : sameM (y :: r) (((1 : Int) :: y :: r).length - 1 : Int) = false := by
          cases e : sameM (y :: r) (((1 : Int) :: y :: r).length - 1 : Int) with
          | false => rfl
          | true => exact ((sameM_zero (y :: r) _ (by simp) e).2 h').elim
        rw [List.tail_cons, this]
        simp
      · simp [hx]
  split
  · rw [ar [1] (by simp)]; rfl
  · rfl

theorem any_ne (L : List Int) (n : Int) (hn : 0 < n) (v : Int) (hv : v ≠ 0) : ((L.length : Int) == n && !(L.any fun x => x != v)) = (sameM L n && L.headD 0 == v) := by
  rw [Bool.eq_iff_iff]
  simp only [sameM, Bool.and_eq_true, decide_eq_true_eq, Bool.not_eq_true', List.any_eq_false, Bool.or_eq_true, not_or, beq_iff_eq, bne_iff_ne, ne_eq, Decidable.not_not]
  constructor
  · rintro ⟨h1, h2⟩
    have hd : L.headD 0 = v := by
      match L, h1, h2 with
      | [], h1, _ => simp at h1; omega
      | x :: r, _, h2 => exact h2 x (by simp)
    exact ⟨⟨h1, fun x hx => ⟨by rw [h2 x hx]; exact hv, by rw [h2 x hx, hd]⟩⟩, hd⟩
  · rintro ⟨⟨h1, h2⟩, h3⟩
    exact ⟨h1, fun x hx => by have := (h2 x hx).2; rw [this, h3]⟩
end Go.Sv
end
