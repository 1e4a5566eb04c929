/- Parts of the proofs of this seat's laws. -/
import Derived.Test.YtkflapebfmcmaaaGreatBOnce27
import Derived.Test.YtkflapebfmcmaaaGreatBOnce32
section
namespace Go.Sv
open Go Go.Proofs
set_option linter.all false
set_option maxRecDepth 1000000
set_option maxHeartbeats 0
def h157 : H := { hh with live := fun b => match b with  | _ => [], keep := fun b => match b with | 15 => some [(6, 2)] | 24 => some [(23, 2)] | 32 => some [(4, 1)] | 45 => some [(44, 2)] | 53 => some [(4, 1)] | 67 => some [(66, 2)] | 81 => some [(80, 2)] | 98 => some [(97, 2)] | 111 => some [(4, 1)] | 127 => some [(126, 2)] | 135 => some [(4, 1)] | 149 => some [(148, 2)] | 157 => some [(4, 1)] | 196 => some [(4, 1)] | _ => none }
theorem tell157 (N : Nat) (n0 : Nat) (k0 : List SV) (u1 : T55) : cBody (kt.at 157) h157 (run kt) N (compF Tryz.f157) [.sl none n0 k0, .agg u1.enc] St0 = (run kt (.func 161 [] []) [(.sl none n0 k0), u1.l] St0).bind fun p0 => (run kt (.func 162 [] []) [p0.1, (.v (.int .i64 (0 : Int)))] p0.2).bind fun p1 => openBool p1.1 fun b2 => (splitB (.v (.bool b2))
 ((some ((.v (.int .i64 (0 : Int))), p1.2)))
 (((splitB (.v (.bool (u1.op == (0 : Int))))
 ((some [(.v (.bool (u1.off == (0 : Int))))]))
 ((some [(.v (.bool false))])))).bind fun vs3 => openHd vs3 fun y4 r5 => openBool y4 fun b6 => ((splitB (.v (.bool (u1.kind == (1 : Int))))
 ((lenE (kt.at 157) 22 p0.1).bind fun r7 => openInt r7 fun a8 => (some [(.v (.bool (a8 == (1 : Int))))]))
 ((some [(.v (.bool false))])))).bind fun vs9 => openHd vs9 fun y10 r11 => openBool y10 fun b12 => (splitB (.v (.bool b12))
 (((splitB (.v (.bool b6))
 ((indexAddrE (kt.at 157) 22 p0.1 (.v (.int .i64 (0 : Int)))).bind fun r13 => loadK (kt.at 157) (St.next p1.2) 3 r13 p1.2 fun r14 => openInt r14 fun a15 => (run kt (.func 196 [] []) [(.v (.bool (u1.ty == a15))), (.v (.int .i64 u1.ty))] p1.2).bind fun p16 => openInt p16.1 fun a17 => (some [(.v (.int .i64 a17))]))
 ((run kt (.func 196 [] []) [(.v (.bool false)), (.v (.int .i64 u1.ty))] p1.2).bind fun p18 => openInt p18.1 fun a19 => (some [(.v (.int .i64 a19))])))).bind fun vs20 => openHd vs20 fun y21 r22 => openInt y21 fun a23 => (some ((.v (.int .i64 a23)), p1.2)))
 (((splitB (.v (.bool (u1.kind == (2 : Int))))
 ((lenE (kt.at 157) 22 p0.1).bind fun r24 => openInt r24 fun a25 => (some [(.v (.bool (a25 == (0 : Int))))]))
 ((some [(.v (.bool false))])))).bind fun vs26 => openHd vs26 fun y27 r28 => openBool y27 fun b29 => (splitB (.v (.bool b29))
 (((splitB (.v (.bool (u1.op == (0 : Int))))
 ((run kt (.func 165 [] []) [(.v (.int .i64 u1.off)), (.v (.int .i64 u1.ty))] p1.2).bind fun p30 => openBool p30.1 fun b31 => (run kt (.func 196 [] []) [(.v (.bool b31)), (.v (.int .i64 u1.ty))] p30.2).bind fun p32 => openInt p32.1 fun a33 => (some [(.v (.int .i64 a33))]))
 ((run kt (.func 196 [] []) [(.v (.bool false)), (.v (.int .i64 u1.ty))] p1.2).bind fun p34 => openInt p34.1 fun a35 => (some [(.v (.int .i64 a35))])))).bind fun vs36 => openHd vs36 fun y37 r38 => openInt y37 fun a39 => (some ((.v (.int .i64 a39)), p1.2)))
 (((splitB (.v (.bool (u1.kind == (3 : Int))))
 ((lenE (kt.at 157) 22 p0.1).bind fun r40 => openInt r40 fun a41 => (some [(.v (.bool (a41 == (1 : Int))))]))
 ((some [(.v (.bool false))])))).bind fun vs42 => openHd vs42 fun y43 r44 => openBool y43 fun b45 => (splitB (.v (.bool b45))
 ((indexAddrE (kt.at 157) 22 p0.1 (.v (.int .i64 (0 : Int)))).bind fun r46 => loadK (kt.at 157) (St.next p1.2) 3 r46 p1.2 fun r47 => openInt r47 fun a48 => (run kt (.func 197 [] []) [(.agg u1.enc), (.v (.int .i64 a48))] p1.2).bind fun p49 => openInt p49.1 fun a50 => (some ((.v (.int .i64 a50)), p49.2)))
 (((splitB (.v (.bool (u1.kind == (4 : Int))))
 ((lenE (kt.at 157) 22 p0.1).bind fun r51 => openInt r51 fun a52 => (some [(.v (.bool (a52 == (2 : Int))))]))
 ((some [(.v (.bool false))])))).bind fun vs53 => openHd vs53 fun y54 r55 => openBool y54 fun b56 => (splitB (.v (.bool b56))
 ((indexAddrE (kt.at 157) 22 p0.1 (.v (.int .i64 (0 : Int)))).bind fun r57 => loadK (kt.at 157) (St.next p1.2) 3 r57 p1.2 fun r58 => openInt r58 fun a59 => (indexAddrE (kt.at 157) 22 p0.1 (.v (.int .i64 (1 : Int)))).bind fun r60 => loadK (kt.at 157) (St.next p1.2) 3 r60 p1.2 fun r61 => openInt r61 fun a62 => (run kt (.func 198 [] []) [(.agg u1.enc), (.v (.int .i64 a59)), (.v (.int .i64 a62))] p1.2).bind fun p63 => openInt p63.1 fun a64 => (some ((.v (.int .i64 a64)), p63.2)))
 (((splitB (.v (.bool (u1.kind == (5 : Int))))
 ((lenE (kt.at 157) 22 p0.1).bind fun r65 => openInt r65 fun a66 => (some [(.v (.bool (a66 == (1 : Int))))]))
 ((splitB (.v (.bool (u1.kind == (6 : Int))))
 ((lenE (kt.at 157) 22 p0.1).bind fun r67 => openInt r67 fun a68 => (some [(.v (.bool (a68 == (1 : Int))))]))
 ((some [(.v (.bool false))])))))).bind fun vs69 => openHd vs69 fun y70 r71 => openBool y70 fun b72 => (splitB (.v (.bool b72))
 (((splitB (.v (.bool b6))
 ((indexAddrE (kt.at 157) 22 p0.1 (.v (.int .i64 (0 : Int)))).bind fun r73 => loadK (kt.at 157) (St.next p1.2) 3 r73 p1.2 fun r74 => openInt r74 fun a75 => (splitB (.v (.bool (a75 == (32 : Int))))
 ((run kt (.func 166 [] []) [(.v (.int .i64 u1.ty))] p1.2).bind fun p76 => openBool p76.1 fun b77 => (run kt (.func 196 [] []) [(.v (.bool b77)), (.v (.int .i64 u1.ty))] p76.2).bind fun p78 => openInt p78.1 fun a79 => (some [(.v (.int .i64 a79))]))
 ((run kt (.func 196 [] []) [(.v (.bool false)), (.v (.int .i64 u1.ty))] p1.2).bind fun p80 => openInt p80.1 fun a81 => (some [(.v (.int .i64 a81))]))))
 ((run kt (.func 196 [] []) [(.v (.bool false)), (.v (.int .i64 u1.ty))] p1.2).bind fun p82 => openInt p82.1 fun a83 => (some [(.v (.int .i64 a83))])))).bind fun vs84 => openHd vs84 fun y85 r86 => openInt y85 fun a87 => (some ((.v (.int .i64 a87)), p1.2)))
 (((splitB (.v (.bool (u1.kind == (9 : Int))))
 ((lenE (kt.at 157) 22 p0.1).bind fun r88 => openInt r88 fun a89 => (some [(.v (.bool (a89 == (1 : Int))))]))
 ((some [(.v (.bool false))])))).bind fun vs90 => openHd vs90 fun y91 r92 => openBool y91 fun b93 => (splitB (.v (.bool b93))
 (((splitB (.v (.bool b6))
 ((indexAddrE (kt.at 157) 22 p0.1 (.v (.int .i64 (0 : Int)))).bind fun r94 => (loadE (kt.at 157) 3 r94 p1.2).bind fun r95 => openInt r95 fun a96 => (splitB (.v (.bool (a96 == (32 : Int))))
 ((run kt (.func 166 [] []) [(.v (.int .i64 u1.ty))] p1.2).bind fun p97 => openBool p97.1 fun b98 => (run kt (.func 196 [] []) [(.v (.bool b98)), (.v (.int .i64 (32 : Int)))] p97.2).bind fun p99 => openInt p99.1 fun a100 => (some [(.v (.int .i64 a100))]))
 ((run kt (.func 196 [] []) [(.v (.bool false)), (.v (.int .i64 (32 : Int)))] p1.2).bind fun p101 => openInt p101.1 fun a102 => (some [(.v (.int .i64 a102))]))))
 ((run kt (.func 196 [] []) [(.v (.bool false)), (.v (.int .i64 (32 : Int)))] p1.2).bind fun p103 => openInt p103.1 fun a104 => (some [(.v (.int .i64 a104))])))).bind fun vs105 => openHd vs105 fun y106 r107 => openInt y106 fun a108 => (some ((.v (.int .i64 a108)), p1.2)))
 (((splitB (.v (.bool (u1.kind == (7 : Int))))
 ((lenE (kt.at 157) 22 p0.1).bind fun r109 => openInt r109 fun a110 => (some [(.v (.bool (a110 == (3 : Int))))]))
 ((some [(.v (.bool false))])))).bind fun vs111 => openHd vs111 fun y112 r113 => openBool y112 fun b114 => (splitB (.v (.bool b114))
 (((splitB (.v (.bool b6))
 ((indexAddrE (kt.at 157) 22 p0.1 (.v (.int .i64 (0 : Int)))).bind fun r115 => loadK (kt.at 157) (St.next p1.2) 3 r115 p1.2 fun r116 => openInt r116 fun a117 => (splitB (.v (.bool (a117 == (1 : Int))))
 ((indexAddrE (kt.at 157) 22 p0.1 (.v (.int .i64 (1 : Int)))).bind fun r118 => loadK (kt.at 157) (St.next p1.2) 3 r118 p1.2 fun r119 => openInt r119 fun a120 => (indexAddrE (kt.at 157) 22 p0.1 (.v (.int .i64 (2 : Int)))).bind fun r121 => loadK (kt.at 157) (St.next p1.2) 3 r121 p1.2 fun r122 => openInt r122 fun a123 => (splitB (.v (.bool (a120 == a123)))
 ((indexAddrE (kt.at 157) 22 p0.1 (.v (.int .i64 (1 : Int)))).bind fun r124 => loadK (kt.at 157) (St.next p1.2) 3 r124 p1.2 fun r125 => openInt r125 fun a126 => (run kt (.func 196 [] []) [(.v (.bool (u1.ty == a126))), (.v (.int .i64 u1.ty))] p1.2).bind fun p127 => openInt p127.1 fun a128 => (some [(.v (.int .i64 a128))]))
 ((run kt (.func 196 [] []) [(.v (.bool false)), (.v (.int .i64 u1.ty))] p1.2).bind fun p129 => openInt p129.1 fun a130 => (some [(.v (.int .i64 a130))]))))
 ((run kt (.func 196 [] []) [(.v (.bool false)), (.v (.int .i64 u1.ty))] p1.2).bind fun p131 => openInt p131.1 fun a132 => (some [(.v (.int .i64 a132))]))))
 ((run kt (.func 196 [] []) [(.v (.bool false)), (.v (.int .i64 u1.ty))] p1.2).bind fun p133 => openInt p133.1 fun a134 => (some [(.v (.int .i64 a134))])))).bind fun vs135 => openHd vs135 fun y136 r137 => openInt y136 fun a138 => (some ((.v (.int .i64 a138)), p1.2)))
 ((splitB (.v (.bool (u1.kind == (8 : Int))))
 ((mapUpdateE (kt.at 157) 89 (.map (St.next p1.2)) (.v (.int .i64 (1 : Int))) (.v (.int .i64 (4 : Int))) (St.alloc p1.2 (.map []))).bind fun S139 => (mapUpdateE (kt.at 157) 89 (.map (St.next p1.2)) (.v (.int .i64 (2 : Int))) (.v (.int .i64 (5 : Int))) S139).bind fun S140 => (lookupE (kt.at 157) 89 (.map (St.next p1.2)) (.v (.int .i64 u1.op)) false S140).bind fun r141 => (run kt (.func 109 [] []) [p0.1, (.func 199 [] [])] S140).bind fun p142 => openBool p142.1 fun b143 => ((binE (kt.at 157) .gtr 3 r141 (.v (.int .i64 (0 : Int)))).bind fun r144 => (splitG r144
 ((lenE (kt.at 157) 22 p0.1).bind fun r145 => openInt r145 fun a146 => (binE (kt.at 157) .eql 3 (.v (.int .i64 a146)) r141).bind fun r147 => (splitG r147
 ((splitB (.v (.bool (!b143)))
 ((splitB (.v (.bool (u1.off == (0 : Int))))
 ((run kt (.func 196 [] []) [(.v (.bool (u1.ty == (32 : Int)))), (.v (.int .i64 u1.ty))] p142.2).bind fun p148 => openInt p148.1 fun a149 => (some [(.v (.int .i64 a149))]))
 ((run kt (.func 196 [] []) [(.v (.bool false)), (.v (.int .i64 u1.ty))] p142.2).bind fun p150 => openInt p150.1 fun a151 => (some [(.v (.int .i64 a151))]))))
 ((run kt (.func 196 [] []) [(.v (.bool false)), (.v (.int .i64 u1.ty))] p142.2).bind fun p152 => openInt p152.1 fun a153 => (some [(.v (.int .i64 a153))]))))
 ((run kt (.func 196 [] []) [(.v (.bool false)), (.v (.int .i64 u1.ty))] p142.2).bind fun p154 => openInt p154.1 fun a155 => (some [(.v (.int .i64 a155))]))
 ((splitB r147
 (none)
 ((run kt (.func 196 [] []) [(.v (.bool false)), (.v (.int .i64 u1.ty))] p142.2).bind fun p156 => openInt p156.1 fun a157 => (some [(.v (.int .i64 a157))]))))))
 ((run kt (.func 196 [] []) [(.v (.bool false)), (.v (.int .i64 u1.ty))] p142.2).bind fun p158 => openInt p158.1 fun a159 => (some [(.v (.int .i64 a159))]))
 ((splitG r144
 (none)
 ((run kt (.func 196 [] []) [(.v (.bool false)), (.v (.int .i64 u1.ty))] p142.2).bind fun p160 => openInt p160.1 fun a161 => (some [(.v (.int .i64 a161))]))
 ((splitG r144
 (none)
 ((run kt (.func 196 [] []) [(.v (.bool false)), (.v (.int .i64 u1.ty))] p142.2).bind fun p162 => openInt p162.1 fun a163 => (some [(.v (.int .i64 a163))]))
 ((splitG r144
 (none)
 ((run kt (.func 196 [] []) [(.v (.bool false)), (.v (.int .i64 u1.ty))] p142.2).bind fun p164 => openInt p164.1 fun a165 => (some [(.v (.int .i64 a165))]))
 ((splitB r144
 (none)
 ((run kt (.func 196 [] []) [(.v (.bool false)), (.v (.int .i64 u1.ty))] p142.2).bind fun p166 => openInt p166.1 fun a167 => (some [(.v (.int .i64 a167))])))))))))))).bind fun vs168 => openHd vs168 fun y169 r170 => openInt y169 fun a171 => (some ((.v (.int .i64 a171)), p142.2)))
 ((some ((.v (.int .i64 (0 : Int))), p1.2)))))))))))))))))))) := by kernel_rfl
theorem fn157 : fnsK 157 = some (compF Tryz.f157) := by kernel_rfl
end Go.Sv
end
section
namespace Go.Sv
open Go Go.Proofs Go.Proofs.YtkflapebfmcmaaaGreat
set_option linter.all false
set_option maxRecDepth 100000

theorem exI_eq {a b : Int} {S : St} (h : a = b) : ExI (some (.v (.int .i64 a), S)) b := by subst h; exact exI a S
theorem ty_cases (t : Int) : t = 1 ∨ t = 8 ∨ t = 16 ∨ t = 32 ∨ t = 128 ∨ (bytesM t = 0 ∧ t ≠ 1 ∧ t ≠ 8 ∧ t ≠ 16 ∧ t ≠ 32 ∧ t ≠ 128) := by
  by_cases h : bytesM t = 0
  · refine .inr (.inr (.inr (.inr (.inr ⟨h, ?_, ?_, ?_, ?_, ?_⟩)))) <;> (rintro rfl; simp [bytesM] at h)
  · rcases bytes_or h with h | h | h | h | h <;> simp [h]
theorem b1 : bytesM 1 = 1 := rfl
theorem b8 : bytesM 8 = 1 := rfl
theorem b16 : bytesM 16 = 2 := rfl
theorem b32 : bytesM 32 = 4 := rfl
def onlyM (b : Bool) (t : Int) : Int := if b = true ∧ bytesM t ≠ 0 then t else 0
theorem tail197 (b c : Bool) (t : Int) (S : St) : ExI (((splitB (.v (.bool b))
 ((run kt (.func 196 [] []) [(.v (.bool c)), (.v (.int .i64 t))] S).bind fun p12 => openInt p12.1 fun a13 => (some [(.v (.int .i64 a13))]))
 ((run kt (.func 196 [] []) [(.v (.bool false)), (.v (.int .i64 t))] S).bind fun p14 => openInt p14.1 fun a15 => (some [(.v (.int .i64 a15))])))).bind fun vs16 => openHd vs16 fun y17 r18 => openInt y17 fun a19 => (some ((.v (.int .i64 a19)), S))) (onlyM (b && c) t) := by
  simp only [spec196, Option.bind_some, openInt_v, splitB_if]
  cases b <;> exact exI _ _
theorem exI_bind {g : Option (List SV)} {c : Bool} {K : List SV → Option (SV × St)} {v : Int} (h1 : g = some [.v (.bool c)]) (h2 : ExI (K [.v (.bool c)]) v) : ExI (g.bind K) v := by
  rw [h1]; exact h2
theorem tail197b (b : Bool) (t : Int) (S : St) : ExI (((run kt (.func 196 [] []) [(.v (.bool b)), (.v (.int .i64 t))] S).bind fun p150 => openInt p150.1 fun a151 => (some [(.v (.int .i64 a151))])).bind fun vs152 => openHd vs152 fun y153 r154 => openInt y153 fun a155 => (some ((.v (.int .i64 a155)), S))) (onlyM b t) := by
  simp only [spec196, Option.bind_some, openInt_v]
  exact exI _ _

def unTy (op ety off ty : Int) : Int := if (!(unaryM op ty ety && wordM (op == 12) off)) = true then 0 else ety

theorem un_fin {op ety off ty : Int} {b : Bool} (hop : op ≠ 12) (h : (b = true ∧ bytesM ety ≠ 0) ↔ (unaryM op ty ety = true ∨ (ety = 0 ∧ bytesM ety ≠ 0))) : onlyM (b && (off == 0)) ety = unTy op ety off ty := by
  unfold onlyM unTy wordM
  have h12 : (op == 12) = false := by simpa using hop
  rw [h12]
  have hz : ¬ (ety = 0 ∧ bytesM ety ≠ 0) := by rintro ⟨rfl, h⟩; simp [bytesM] at h
  simp only [hz, or_false] at h
  by_cases ho : off = 0
  · subst ho
    by_cases hu : unaryM op ty ety = true
    · have := h.2 hu
      simp [hu, this.1, this.2]
    · have hn : ¬ (b = true ∧ bytesM ety ≠ 0) := fun x => hu (h.1 x)
      have hu' : unaryM op ty ety = false := by simpa using hu
      rw [if_neg (by simpa using hn), hu']; rfl
  · simp [ho]

set_option maxHeartbeats 4000000 in
theorem spec197 (e : Expr) (ty : Int) (hv : bytesM ty ≠ 0) (S : St) : run kt (.func 197 [] []) [.agg e.t55.enc, .v (.int .i64 ty)] S = some (.v (.int .i64 (unTy e.op e.ty e.off ty)), S) := by
  refine closed_int h197 0 rfl (fn_kt 197 fn197) rfl ?_
  simp only [List.map_cons, List.map_nil, expr_ws, int_ws]
  rw [tell197]
  obtain ⟨k, ety, op, off, xs⟩ := e
  simp only [Expr.t55]
  have fin : ∀ (b : Bool), op ≠ 12 → ((b = true ∧ bytesM ety ≠ 0) ↔ (unaryM op ty ety = true ∨ (ety = 0 ∧ bytesM ety ≠ 0))) → ∀ S, ExI (((splitB (.v (.bool b))
 ((run kt (.func 196 [] []) [(.v (.bool (off == 0))), (.v (.int .i64 ety))] S).bind fun p12 => openInt p12.1 fun a13 => (some [(.v (.int .i64 a13))]))
 ((run kt (.func 196 [] []) [(.v (.bool false)), (.v (.int .i64 ety))] S).bind fun p14 => openInt p14.1 fun a15 => (some [(.v (.int .i64 a15))])))).bind fun vs16 => openHd vs16 fun y17 r18 => openInt y17 fun a19 => (some ((.v (.int .i64 a19)), S))) (unTy op ety off ty) := by
    intro b hop h S
    rw [← un_fin hop h]
    exact tail197 b (off == 0) ety S
  refine exI_split (fun h => ?_) fun o1 => ?_
  · obtain rfl : op = 1 := by simpa using h
    refine fin _ (by decide) ?_ _
    unfold unaryM
    rcases bytes_or hv with rfl | rfl | rfl | rfl | rfl <;> rcases ty_cases ety with rfl | rfl | rfl | rfl | rfl | ⟨h, h1, h8, h16, h32, h128⟩ <;> clear fin <;> first | (simp_all [bytesM]; done) | (simp_all [bytesM]; omega)
  refine exI_split (fun h => ?_) fun o2 => ?_
  · obtain rfl : op = 2 := by simpa using h
    refine exI_bind (c := ety == 32 && decide (ty < 32)) ?_ (fin _ (by decide) ?_ _)
    · simp only [splitB_if]; cases (ety == 32) <;> rfl
    unfold unaryM
    rcases bytes_or hv with rfl | rfl | rfl | rfl | rfl <;> rcases ty_cases ety with rfl | rfl | rfl | rfl | rfl | ⟨h, h1, h8, h16, h32, h128⟩ <;> clear fin <;> first | (simp_all [bytesM]; done) | (simp_all [bytesM]; omega)
  refine exI_split (fun h => ?_) fun o3 => ?_
  · obtain rfl : op = 3 := by simpa using h
    refine exI_bind (c := ety == 32 && decide (ty < 32)) ?_ (fin _ (by decide) ?_ _)
    · simp only [splitB_if]; cases (ety == 32) <;> rfl
    unfold unaryM
    rcases bytes_or hv with rfl | rfl | rfl | rfl | rfl <;> rcases ty_cases ety with rfl | rfl | rfl | rfl | rfl | ⟨h, h1, h8, h16, h32, h128⟩ <;> clear fin <;> first | (simp_all [bytesM]; done) | (simp_all [bytesM]; omega)
  refine exI_split (fun h => ?_) fun o4 => ?_
  · obtain rfl : op = 4 := by simpa using h
    refine exI_bind (c := ty == 32 && (ety == 8 || ety == 16)) ?_ (fin _ (by decide) ?_ _)
    · simp only [splitB_if]; cases (ty == 32) <;> cases (ety == 8) <;> rfl
    unfold unaryM
    rcases bytes_or hv with rfl | rfl | rfl | rfl | rfl <;> rcases ty_cases ety with rfl | rfl | rfl | rfl | rfl | ⟨h, h1, h8, h16, h32, h128⟩ <;> clear fin <;> first | (simp_all [bytesM]; done) | (simp_all [bytesM]; omega)
  refine exI_split (fun h => ?_) fun o5 => ?_
  · obtain rfl : op = 5 := by simpa using h
    refine fin _ (by decide) ?_ _
    unfold unaryM
    rcases bytes_or hv with rfl | rfl | rfl | rfl | rfl <;> rcases ty_cases ety with rfl | rfl | rfl | rfl | rfl | ⟨h, h1, h8, h16, h32, h128⟩ <;> clear fin <;> first | (simp_all [bytesM]; done) | (simp_all [bytesM]; omega)
  refine exI_split (fun h => ?_) fun o6 => ?_
  · obtain rfl : op = 6 := by simpa using h
    refine exI_bind (c := ty == 1 && storM ety) ?_ (fin _ (by decide) ?_ _)
    · simp only [splitB_if, spec166, Option.bind_some, openBool_v]; cases (ty == 1) <;> rfl
    unfold unaryM storM
    rcases bytes_or hv with rfl | rfl | rfl | rfl | rfl <;> rcases ty_cases ety with rfl | rfl | rfl | rfl | rfl | ⟨h, h1, h8, h16, h32, h128⟩ <;> clear fin <;> first | (simp_all [bytesM]; done) | (simp_all [bytesM]; omega)
  refine exI_split (fun h => ?_) fun o7 => ?_
  · obtain rfl : op = 7 := by simpa using h
    refine exI_bind (c := ty == 32 && ety == 32) ?_ (fin _ (by decide) ?_ _)
    · simp only [splitB_if]; cases (ty == 32) <;> rfl
    unfold unaryM
    rcases bytes_or hv with rfl | rfl | rfl | rfl | rfl <;> rcases ty_cases ety with rfl | rfl | rfl | rfl | rfl | ⟨h, h1, h8, h16, h32, h128⟩ <;> clear fin <;> first | (simp_all [bytesM]; done) | (simp_all [bytesM]; omega)
  refine exI_split (fun h => ?_) fun o8 => ?_
  · obtain rfl : op = 8 := by simpa using h
    refine exI_bind (c := ty == 128 && ety == 128) ?_ (fin _ (by decide) ?_ _)
    · simp only [splitB_if]; cases (ty == 128) <;> rfl
    unfold unaryM
    rcases bytes_or hv with rfl | rfl | rfl | rfl | rfl <;> rcases ty_cases ety with rfl | rfl | rfl | rfl | rfl | ⟨h, h1, h8, h16, h32, h128⟩ <;> clear fin <;> first | (simp_all [bytesM]; done) | (simp_all [bytesM]; omega)
  refine exI_split (fun h => ?_) fun o9 => ?_
  · obtain rfl : op = 9 := by simpa using h
    refine exI_bind (c := ty == 128 && ety == 128) ?_ (fin _ (by decide) ?_ _)
    · simp only [splitB_if]; cases (ty == 128) <;> rfl
    unfold unaryM
    rcases bytes_or hv with rfl | rfl | rfl | rfl | rfl <;> rcases ty_cases ety with rfl | rfl | rfl | rfl | rfl | ⟨h, h1, h8, h16, h32, h128⟩ <;> clear fin <;> first | (simp_all [bytesM]; done) | (simp_all [bytesM]; omega)
  refine exI_split (fun h => ?_) fun o10 => ?_
  · obtain rfl : op = 10 := by simpa using h
    refine exI_bind (c := ty == 128 && ety == 128) ?_ (fin _ (by decide) ?_ _)
    · simp only [splitB_if]; cases (ty == 128) <;> rfl
    unfold unaryM
    rcases bytes_or hv with rfl | rfl | rfl | rfl | rfl <;> rcases ty_cases ety with rfl | rfl | rfl | rfl | rfl | ⟨h, h1, h8, h16, h32, h128⟩ <;> clear fin <;> first | (simp_all [bytesM]; done) | (simp_all [bytesM]; omega)
  refine exI_split (fun h => ?_) fun o11 => ?_
  · obtain rfl : op = 11 := by simpa using h
    refine exI_bind (c := ty == 32 && ety == 128) ?_ (fin _ (by decide) ?_ _)
    · simp only [splitB_if]; cases (ty == 32) <;> rfl
    unfold unaryM
    rcases bytes_or hv with rfl | rfl | rfl | rfl | rfl <;> rcases ty_cases ety with rfl | rfl | rfl | rfl | rfl | ⟨h, h1, h8, h16, h32, h128⟩ <;> clear fin <;> first | (simp_all [bytesM]; done) | (simp_all [bytesM]; omega)
  refine exI_split (fun h => ?_) fun o12 => ?_
  · obtain rfl : op = 12 := by simpa using h
    simp only [splitB_dec, spec196, Option.bind_some, openInt_v, splitB_if]
    have e : unTy 12 ety off ty = if (off ≥ 0 ∧ off < 4) ∧ ty = 128 ∧ ety = 32 then 32 else 0 := by
      unfold unTy unaryM wordM
      by_cases hc : (off ≥ 0 ∧ off < 4) ∧ ty = 128 ∧ ety = 32
      · rw [if_pos hc]
        obtain ⟨⟨h1, h2⟩, rfl, rfl⟩ := hc
        by_cases h0 : off = 0
        · simp [h0]
        · have h3 : off > 0 := by omega
          have h4 : off ≤ 3 := by omega
          simp [h3, h4]
      · rw [if_neg hc]
        by_cases h1 : ty = 128
        · by_cases h2 : ety = 32
          · have h3 : ¬ (off > 0 ∧ off ≤ 3) := fun h => hc ⟨⟨by omega, by omega⟩, h1, h2⟩
            have h4 : ¬ off = 0 := fun h => hc ⟨⟨by omega, by omega⟩, h1, h2⟩
            have : (off == 0 || ((12 : Int) == 12 && (decide (off > 0) && decide (off ≤ 3)))) = false := by
              simp [h4]; omega
            rw [this]; simp
          · simp [h1, h2]
        · simp [h1]
    rw [e]
    by_cases h1 : off ≥ 0
    · by_cases h2 : off < 4
      · by_cases h3 : ty = 128
        · subst h3
          simp only [h1, h2, if_true, beq_self_eq_true, Option.bind_some, openHd_v, openInt_v, true_and]
          by_cases h4 : ety = 32
          · subst h4; exact exI_eq (by simp [bytesM])
          · exact exI_eq (by simp [h4])
        · have h3' : (ty == 128) = false := by simpa using h3
          simp only [h1, h2, h3', h3, if_true, Option.bind_some, openHd_v, openInt_v, true_and, false_and, if_false, Bool.false_eq_true]
          exact exI_eq rfl
      · simp only [h1, h2, if_true, if_false, Option.bind_some, openHd_v, openInt_v, true_and, false_and, Bool.false_eq_true]
        exact exI_eq rfl
    · simp only [h1, if_true, if_false, Option.bind_some, openHd_v, openInt_v, true_and, false_and, Bool.false_eq_true]
      exact exI_eq rfl
  refine exI_split (fun h => ?_) fun o13 => ?_
  · obtain rfl : op = 13 := by simpa using h
    refine exI_bind (c := ty == 128 && ety == 32) ?_ (fin _ (by decide) ?_ _)
    · simp only [splitB_if]; cases (ty == 128) <;> rfl
    unfold unaryM
    rcases bytes_or hv with rfl | rfl | rfl | rfl | rfl <;> rcases ty_cases ety with rfl | rfl | rfl | rfl | rfl | ⟨h, h1, h8, h16, h32, h128⟩ <;> clear fin <;> first | (simp_all [bytesM]; done) | (simp_all [bytesM]; omega)
  have : unTy op ety off ty = onlyM false ety := by
    unfold unTy unaryM onlyM
    simp only [o1, o2, o3, o4, o5, o6, o7, o8, o9, o10, o11, o12, o13]
    rfl
  rw [this]
  exact tail197b false ety _
end Go.Sv
end
section
namespace Go.Sv
open Go Go.Proofs Go.Proofs.YtkflapebfmcmaaaGreat
set_option linter.all false
set_option maxRecDepth 100000

theorem gand (c d : Bool) : splitB (.v (.bool c)) (some [SV.v (.bool d)]) (some [SV.v (.bool false)]) = some [SV.v (.bool (c && d))] := by cases c <;> rfl
theorem gor (c d : Bool) : splitB (.v (.bool c)) (some [SV.v (.bool true)]) (some [SV.v (.bool d)]) = some [SV.v (.bool (c || d))] := by cases c <;> rfl
theorem exI_bind2 {g : Option (List SV)} {c d : Bool} {K : List SV → Option (SV × St)} {v : Int} (h1 : g = some [.v (.bool c), .v (.bool d)]) (h2 : ExI (K [.v (.bool c), .v (.bool d)]) v) : ExI (g.bind K) v := by
  rw [h1]; exact h2
def biTy (op ety off a b : Int) : Int := if (!(binaryM op [a, b] ety && wordM (op == 30) off)) = true then 0 else ety

theorem are2 (a b x y : Int) : areM [a, b] [x, y] = ((a == x) && (b == y)) := by
  rw [areM_eq]
  by_cases h1 : a = x <;> by_cases h2 : b = y <;> simp [h1, h2]
theorem same2 (a b : Int) (ha : a ≠ 0) : sameM [a, b] 2 = (a == b) := by
  unfold sameM
  have h0 : (a == 0) = false := by simpa using ha
  by_cases h : a = b
  · subst h; simp [ha]
  · have h' : ¬ b = a := fun e => h e.symm
    have hb : (a == b) = false := by simpa using h
    have hc : (b != a) = true := by simpa using h'
    simp [ha, hb, hc]
theorem bi_fin {op ety a b : Int} {c : Bool} (h30 : op ≠ 30) (h : (c = true ∧ bytesM ety ≠ 0) ↔ binaryM op [a, b] ety = true) : onlyM c ety = biTy op ety 0 a b := by
  unfold onlyM biTy wordM
  by_cases hu : binaryM op [a, b] ety = true
  · have := h.2 hu
    simp [hu, this.1, this.2]
  · have hn : ¬ (c = true ∧ bytesM ety ≠ 0) := fun x => hu (h.1 x)
    have hu' : binaryM op [a, b] ety = false := by simpa using hu
    rw [if_neg hn, hu']; rfl

set_option maxHeartbeats 4000000 in
theorem spec198 (e : Expr) (a b : Int) (ha : bytesM a ≠ 0) (hb : bytesM b ≠ 0) (S : St) : run kt (.func 198 [] []) [.agg e.t55.enc, .v (.int .i64 a), .v (.int .i64 b)] S = some (.v (.int .i64 (biTy e.op e.ty e.off a b)), S) := by
  refine closed_int h198 0 rfl (fn_kt 198 fn198) rfl ?_
  simp only [List.map_cons, List.map_nil, expr_ws, int_ws]
  rw [tell198]
  obtain ⟨k, ety, op, off, xs⟩ := e
  simp only [Expr.t55]
  have ha0 : a ≠ 0 := by intro h; subst h; simp [bytesM] at ha
  refine exI_bind2 (c := a == 32 && b == 32) (d := a == 128 && b == 128) ?_ ?_
  · simp only [splitB_if]; cases (a == 32) <;> cases (a == 128) <;> rfl
  simp only [openHd_v, openBool_v]
  refine exI_split (fun h => ?_) fun o30 => ?_
  · obtain rfl : op = 30 := by simpa using h
    simp only [splitB_dec, spec196, Option.bind_some, openInt_v, splitB_if]
    have e : biTy 30 ety off a b = if (off ≥ 0 ∧ off < 4) ∧ (a = 128 ∧ b = 32) ∧ ety = 128 then 128 else 0 := by
      unfold biTy wordM
      rw [show binaryM 30 [a, b] ety = (areM [a, b] [128, 32] && ety == 128) from rfl, are2]
      by_cases hc : (off ≥ 0 ∧ off < 4) ∧ (a = 128 ∧ b = 32) ∧ ety = 128
      · rw [if_pos hc]
        obtain ⟨⟨h1, h2⟩, ⟨rfl, rfl⟩, rfl⟩ := hc
        by_cases h0 : off = 0
        · simp [h0]
        · have h3 : off > 0 := by omega
          have h4 : off ≤ 3 := by omega
          simp [h3, h4]
      · rw [if_neg hc]
        by_cases h1 : a = 128
        · by_cases h5 : b = 32
          · by_cases h2 : ety = 128
            · have h3 : ¬ (off > 0 ∧ off ≤ 3) := fun h => hc ⟨⟨by omega, by omega⟩, ⟨h1, h5⟩, h2⟩
              have h4 : ¬ off = 0 := fun h => hc ⟨⟨by omega, by omega⟩, ⟨h1, h5⟩, h2⟩
              have : (off == 0 || ((30 : Int) == 30 && (decide (off > 0) && decide (off ≤ 3)))) = false := by
                simp [h4]; omega
              rw [this]; simp
            · simp [h1, h2]
          · simp [h1, h5]
        · simp [h1]
    rw [e]
    by_cases h1 : off ≥ 0
    · by_cases h2 : off < 4
      · by_cases h3 : a = 128
        · subst h3
          by_cases h5 : b = 32
          · subst h5
            simp only [h1, h2, if_true, beq_self_eq_true, Option.bind_some, openHd_v, openInt_v, true_and]
            by_cases h4 : ety = 128
            · subst h4; exact exI_eq (by simp [bytesM])
            · exact exI_eq (by simp [h4])
          · have h5' : (b == 32) = false := by simpa using h5
            simp only [h1, h2, h5, h5', if_true, beq_self_eq_true, Option.bind_some, openHd_v, openInt_v, true_and, and_false, false_and, if_false, Bool.false_eq_true]
            exact exI_eq rfl
        · have h3' : (a == 128) = false := by simpa using h3
          simp only [h1, h2, h3', h3, if_true, Option.bind_some, openHd_v, openInt_v, true_and, false_and, if_false, Bool.false_eq_true]
          exact exI_eq rfl
      · simp only [h1, h2, if_true, if_false, Option.bind_some, openHd_v, openInt_v, true_and, false_and, Bool.false_eq_true]
        exact exI_eq rfl
    · simp only [h1, if_true, if_false, Option.bind_some, openHd_v, openInt_v, true_and, false_and, Bool.false_eq_true]
      exact exI_eq rfl
  have h30 : op ≠ 30 := by simpa using o30
  refine exI_split (fun h => ?_) fun ho => ?_
  · have h' : ¬ off = 0 := by simpa using h
    have hz : wordM (op == 30) off = false := by unfold wordM; rw [o30]; simpa using h'
    have : biTy op ety off a b = 0 := by unfold biTy; rw [hz, Bool.and_false]; rfl
    rw [this]; exact exI _ _
  obtain rfl : off = 0 := by simpa using ho
  refine exI_bind (c := decide (op ≥ 1) && decide (op ≤ 7)) ?_ ?_
  · exact gand _ _
  simp only [openHd_v, openBool_v]
  refine exI_split (fun o1 => ?_) fun o1 => ?_
  · rw [← bi_fin (c := (a == 32 && b == 32) && (ety == 32)) h30 ?_]
    · exact tail197 _ _ _ _
    · simp only [binaryM, o1, if_true, are2]
      rcases ty_cases ety with rfl | rfl | rfl | rfl | rfl | ⟨h, h1, h8, h16, h32, h128⟩ <;> first | (simp_all [bytesM]; done) | (simp_all [bytesM]; omega)
  refine exI_bind (c := decide (op ≥ 11) && decide (op ≤ 13)) ?_ ?_
  · exact gand _ _
  simp only [openHd_v, openBool_v]
  refine exI_split (fun o2 => ?_) fun o2 => ?_
  · rw [← bi_fin (c := (a == 32 && b == 32) && (ety == 32)) h30 ?_]
    · exact tail197 _ _ _ _
    · simp only [binaryM, o1, o2, if_true, are2, Bool.false_eq_true, if_false]
      rcases ty_cases ety with rfl | rfl | rfl | rfl | rfl | ⟨h, h1, h8, h16, h32, h128⟩ <;> first | (simp_all [bytesM]; done) | (simp_all [bytesM]; omega)
  refine exI_bind (c := decide (op ≥ 8) && decide (op ≤ 10)) ?_ ?_
  · exact gand _ _
  simp only [openHd_v, openBool_v]
  refine exI_split (fun o3 => ?_) fun o3 => ?_
  · rw [← bi_fin (c := (a == b) && (ety == a)) h30 ?_]
    · exact tail197 _ _ _ _
    · simp only [binaryM, o1, o2, o3, if_true, same2 a b ha0, Bool.false_eq_true, if_false, List.headD_cons]
      by_cases h : ety = a
      · subst h; simp [ha]
      · simp [h]
  refine exI_bind (c := (op == 14) || (op == 15)) ?_ ?_
  · exact gor _ _
  simp only [openHd_v, openBool_v]
  refine exI_split (fun o4 => ?_) fun o4 => ?_
  · rw [← bi_fin (c := (a == b) && (ety == 1)) h30 ?_]
    · exact tail197 _ _ _ _
    · have : binaryM op [a, b] ety = ((a == b) && (ety == 1)) := by
        simp only [binaryM, o1, o2, o3, same2 a b ha0, Bool.false_eq_true, if_false]
        rcases Bool.or_eq_true_iff.1 o4 with h | h
        · rw [if_pos h]
        · by_cases h14 : (op == 14) = true
          · rw [if_pos h14]
          · rw [if_neg h14, if_pos h]
      rw [this]
      by_cases h : ety = 1
      · subst h; simp [bytesM]
      · simp [h]
  refine exI_bind (c := decide (op ≥ 16) && decide (op ≤ 19)) ?_ ?_
  · exact gand _ _
  simp only [openHd_v, openBool_v]
  have o14 : (op == 14) = false := by cases h : (op == 14) <;> simp_all
  have o15 : (op == 15) = false := by cases h : (op == 15) <;> simp_all
  refine exI_split (fun o5 => ?_) fun o5 => ?_
  · rw [← bi_fin (c := (a == 32 && b == 32) && (ety == 1)) h30 ?_]
    · exact tail197 _ _ _ _
    · simp only [binaryM, o1, o2, o3, o14, o15, o5, if_true, are2, Bool.false_eq_true, if_false]
      by_cases h : ety = 1
      · subst h; simp [bytesM]
      · simp [h]
  refine exI_bind (c := decide (op ≥ 20) && decide (op ≤ 29)) ?_ ?_
  · exact gand _ _
  simp only [openHd_v, openBool_v]
  refine exI_split (fun o6 => ?_) fun o6 => ?_
  · rw [← bi_fin (c := (a == 128 && b == 128) && (ety == 128)) h30 ?_]
    · exact tail197 _ _ _ _
    · simp only [binaryM, o1, o2, o3, o14, o15, o5, o6, if_true, are2, Bool.false_eq_true, if_false]
      by_cases h : ety = 128
      · subst h; simp [bytesM]
      · simp [h]
  have : biTy op ety 0 a b = 0 := by
    unfold biTy
    simp only [binaryM, o1, o2, o3, o14, o15, o5, o6, o30, Bool.false_eq_true, if_false, Bool.false_and, Bool.not_false, if_true]
  rw [this]; exact exI _ _
end Go.Sv
end
