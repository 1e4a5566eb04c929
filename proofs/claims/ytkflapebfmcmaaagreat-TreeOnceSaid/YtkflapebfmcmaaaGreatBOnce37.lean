/- Parts of the proofs of this seat's laws. -/
import Derived.Test.YtkflapebfmcmaaaGreatBOnce16
import Derived.Test.YtkflapebfmcmaaaGreatBOnce27
import Derived.Test.YtkflapebfmcmaaaGreatBOnce36
section
set_option linter.all false
/- Bodies with loops over functions, and rounds of such a loop, told on. -/
namespace Go.Sv
open Go

section
variable {Z : Type} (k : K) (h : H) (cf : CallF) (N : Nat) (fn : FuncId)

def pendK (o : SObj) (a b : Option Z) : Option Z :=
  match o with
  | .loop r => if r.busy = true then none else match r.pending with | none => a | some .ret => b | _ => none
  | _ => none

def dropK : List Nat → St → (St → Option Z) → Option Z
  | [], S, K => K S
  | d :: r, S, K => match S.get d with | .dfr => if S.floor ≤ d then dropK r (S.put d .dead) K else none | _ => none

def mkLoop (ρ : Nat → SV) (ps : List Nat) (asg bd : CC) (S : St) : St := (S.alloc .dfr).alloc (.loop ⟨fn, ρ, ps, asg, bd, S.next, none, false⟩)

def rangeK (f : Operand) (ps : List Nat) (asg bd : CC) (ds : List Nat) (ρ : Nat → SV) (U : List Nat) (S : St) (Kn Kr : List Nat → (Nat → SV) → List Nat → St → Option Z) : Option Z :=
  if U.isEmpty = true then (cf (ev ρ f) [.yield (S.next + 1)] (mkLoop fn ρ ps asg bd S)).bind fun p => pendK (p.2.get (S.next + 1)) (Kn (S.next :: ds) ρ U (p.2.put (S.next + 1) .dead)) (Kr (S.next :: ds) ρ U (p.2.put (S.next + 1) .dead)) else none

def rCode : CC → List Nat → (Nat → SV) → List Nat → St → (List Nat → (Nat → SV) → List Nat → St → Option Z) → (List Nat → (Nat → SV) → List Nat → St → Option Z) → Option Z
  | .seq a b, ds, ρ, U, S, Kn, Kr => rCode a ds ρ U S (fun ds ρ U S => rCode b ds ρ U S Kn Kr) Kr
  | .block id b, ds, ρ, U, S, Kn, Kr =>
    match b with
    | .rangeFunc f ps asg bd => rangeK cf fn f ps asg bd ds ρ U S Kn Kr
    | b => cCode k h cf N (.block id b) 0 ρ U S (Kn ds) (fun _ _ _ _ => none) (Kr ds)
  | c, ds, ρ, U, S, Kn, Kr => cCode k h cf N c 0 ρ U S (Kn ds) (fun _ _ _ _ => none) (Kr ds)

def rFin (res : List ResultVar) (ds : List Nat) (ρ : Nat → SV) (U : List Nat) (S : St) : Option (SV × St) := dropK ds S fun S => finK k res ρ U S

def rBody (c : CF) (args : List SV) (S : St) : Option (SV × St) :=
  if args.length ≤ c.nt then rCode k h cf N fn c.body [] (initρ args) [] S (rFin k c.res) (rFin k c.res) else none

def busyK (l : Nat) (S : St) (K : St → Option Z) : Option Z :=
  match S.get l with
  | .loop r => if r.busy = true ∨ r.pending.isSome = true then none else K (S.put l (.loop { r with busy := true }))
  | _ => none

def doneK (l : Nat) (p : Option CC) (b : Bool) (S : St) : Option (SV × St) :=
  match S.get l with
  | .loop r => some (.v (.bool b), S.put l (.loop { r with busy := false, pending := p }))
  | _ => none

def rRound (l : Nat) (ρ : Nat → SV) (ps : List Nat) (asg bd : CC) (args : List SV) (S : St) : Option (SV × St) :=
  cCode k h cf N asg 0 ((ps.zip args).foldl (fun ρ p => upd ρ p.1 p.2) ρ) [] S
    (fun ρ U S => busyK l S fun S => cCode k h cf N bd 0 ρ U S (fun _ _ S => doneK l none true S) (fun id _ _ S => doneK l (some (.exit id)) false S) (fun _ _ S => doneK l (some .ret) false S))
    (fun _ _ _ _ => none) (fun _ _ _ => none)
end

section
variable {Z : Type} {k : K} {h : H} {cf : CallF} {N : Nat} {fn : FuncId}

def PostR (Kn Kr : List Nat → (Nat → SV) → List Nat → St → Option Z) (e : Ex) (ds : List Nat) (ρ : Nat → SV) (U : List Nat) (S : St) (z : Z) : Prop :=
  match e with
  | .normal => Kn ds ρ U S = some z
  | .ret => Kr ds ρ U S = some z
  | .exit _ => False

theorem rangeK_sound {f : Operand} {ps : List Nat} {asg bd : CC} {ds : List Nat} {ρ : Nat → SV} {U : List Nat} {S : St} {Kn Kr : List Nat → (Nat → SV) → List Nat → St → Option Z} {z : Z} (e : rangeK cf fn f ps asg bd ds ρ U S Kn Kr = some z) (ρ2 : Nat → SV) (ha : Agree U ρ2 ρ) :
    ∃ x S', evCode k cf N fn false (.rangeFunc f ps asg bd) ⟨ρ2, ds.map .coll⟩ S = some (x, ⟨ρ, (S.next :: ds).map .coll⟩, S') ∧ PostR Kn Kr x (S.next :: ds) ρ U S' z := by
  unfold rangeK at e
  split at e
  · rename_i hU
    have hU : U = [] := List.isEmpty_iff.1 hU
    subst hU
    have hρ : ρ2 = ρ := funext fun t => ha t (by simp)
    subst hρ
    simp only [Option.bind_eq_some_iff] at e
    obtain ⟨p, h1, e⟩ := e
    unfold pendK at e
    split at e
    · rename_i r hr
      split at e
      · cases e
      · rename_i hb
        have hb' : r.busy = false := by simpa using hb
        split at e
        · rename_i hp
          refine ⟨.normal, _, ?_, e⟩
          simp only [evCode, Bool.false_eq_true, if_false]
          rw [show ((S.alloc SObj.dfr).next) = S.next + 1 from rfl]
          rw [show (St.alloc (S.alloc SObj.dfr) (SObj.loop ⟨fn, ρ2, ps, asg, bd, S.next, none, false⟩)) = mkLoop fn ρ2 ps asg bd S from rfl, h1]
          simp only [Option.bind_some, hr, hb', Bool.false_eq_true, if_false, hp, List.map_cons]
        · rename_i hp
          refine ⟨.ret, _, ?_, e⟩
          simp only [evCode, Bool.false_eq_true, if_false]
          rw [show ((S.alloc SObj.dfr).next) = S.next + 1 from rfl]
          rw [show (St.alloc (S.alloc SObj.dfr) (SObj.loop ⟨fn, ρ2, ps, asg, bd, S.next, none, false⟩)) = mkLoop fn ρ2 ps asg bd S from rfl, h1]
          simp only [Option.bind_some, hr, hb', Bool.false_eq_true, if_false, hp, List.map_cons]
        · cases e
    · cases e
  · cases e

theorem cleaf_sound (hcl : Closed k cf) {c : CC} {ds : List Nat} {ρ : Nat → SV} {U : List Nat} {S : St} {Kn Kr : List Nat → (Nat → SV) → List Nat → St → Option Z} {z : Z} (e : cCode k h cf N c 0 ρ U S (Kn ds) (fun _ _ _ _ => none) (Kr ds) = some z) (ρ2 : Nat → SV) (ha : Agree U ρ2 ρ) :
    ∃ x ρ2' S' ds' ρ' U', evCode k cf N fn false c ⟨ρ2, ds.map .coll⟩ S = some (x, ⟨ρ2', ds'.map .coll⟩, S') ∧ Agree U' ρ2' ρ' ∧ PostR Kn Kr x ds' ρ' U' S' z := by
  obtain ⟨e1, ρ2', S', ρ', U', h1, h2, h3, h4⟩ := cCode_sound hcl N fn false c 0 _ _ _ _ _ _ _ e ρ2 (ds.map .coll) ha
  refine ⟨e1, ρ2', S', ds, ρ', U', h1, h2, ?_⟩
  cases e1 with
  | normal => exact h4
  | ret => exact h4
  | exit id => cases h4

theorem rCode_sound (hcl : Closed k cf) : ∀ (c : CC) (ds : List Nat) (ρ : Nat → SV) (U : List Nat) (S : St) (Kn Kr : List Nat → (Nat → SV) → List Nat → St → Option Z) (z : Z), rCode k h cf N fn c ds ρ U S Kn Kr = some z → ∀ ρ2, Agree U ρ2 ρ →
    ∃ x ρ2' S' ds' ρ' U', evCode k cf N fn false c ⟨ρ2, ds.map .coll⟩ S = some (x, ⟨ρ2', ds'.map .coll⟩, S') ∧ Agree U' ρ2' ρ' ∧ PostR Kn Kr x ds' ρ' U' S' z := by
  intro c
  induction c with
  | seq a b iha ihb =>
    intro ds ρ U S Kn Kr z e ρ2 ha
    simp only [rCode] at e
    obtain ⟨x, ρ3, S1, ds1, ρ', U', h1, h2, h3⟩ := iha _ _ _ _ _ _ _ e ρ2 ha
    cases x with
    | normal =>
      obtain ⟨x, ρ4, S2, ds2, ρ'', U'', g1, g2, g3⟩ := ihb _ _ _ _ _ _ _ h3 ρ3 h2
      exact ⟨x, ρ4, S2, ds2, ρ'', U'', by simp only [evCode, h1, Option.bind_some]; exact g1, g2, g3⟩
    | ret => exact ⟨.ret, ρ3, S1, ds1, ρ', U', by simp only [evCode, h1, Option.bind_some], h2, h3⟩
    | exit id => cases h3
  | block id b ihb =>
    intro ds ρ U S Kn Kr z e ρ2 ha
    simp only [rCode] at e
    split at e
    · rename_i f ps asg bd
      obtain ⟨x, S', h1, h2⟩ := rangeK_sound (k := k) (N := N) e ρ2 ha
      cases x with
      | normal => exact ⟨.normal, ρ, S', S.next :: ds, ρ, U, by simp only [evCode] at h1 ⊢; rw [h1]; rfl, fun _ _ => rfl, h2⟩
      | ret => exact ⟨.ret, ρ, S', S.next :: ds, ρ, U, by simp only [evCode] at h1 ⊢; rw [h1]; rfl, fun _ _ => rfl, h2⟩
      | exit id => cases h2
    · exact cleaf_sound hcl e ρ2 ha
  | _ => intro ds ρ U S Kn Kr z e ρ2 ha; exact cleaf_sound hcl e ρ2 ha

theorem dropK_sound {cf : CallF} : ∀ (ds : List Nat) (S : St) (K : St → Option Z) (z : Z), dropK ds S K = some z → ∃ S', evDefers k cf (ds.map .coll) S = some S' ∧ K S' = some z
  | [], S, K, z, e => ⟨S, rfl, e⟩
  | d :: r, S, K, z, e => by
    simp only [dropK] at e
    split at e
    · rename_i hg
      split at e
      · rename_i hf
        obtain ⟨S', h1, h2⟩ := dropK_sound r _ K z e
        exact ⟨S', by simp only [List.map_cons, evDefers, hg, if_pos hf]; exact h1, h2⟩
      · cases e
    · cases e

/-- A body with loops over functions, told on. -/
theorem rBody_sound (hcl : Closed k cf) {c : CF} {args : List SV} {S : St} {z : SV × St} (e : rBody k h cf N fn c args S = some z) : evBody k cf N fn c args S = some z := by
  unfold rBody at e
  unfold evBody
  split at e
  · rename_i hl
    rw [if_pos hl]
    obtain ⟨x, ρ2', S', ds, ρ', U', h1, h2, h3⟩ := rCode_sound hcl c.body [] _ _ _ _ _ _ e (initρ args) (fun _ _ => rfl)
    rw [show (([] : List Nat).map Df.coll) = [] from rfl] at h1
    rw [h1]
    simp only [Option.bind_some]
    cases x with
    | normal =>
      obtain ⟨S2, g1, g2⟩ := dropK_sound (k := k) (cf := cf) _ _ _ _ h3
      simp only [g1, Option.bind_some]; exact finK_sound h2 g2
    | ret =>
      obtain ⟨S2, g1, g2⟩ := dropK_sound (k := k) (cf := cf) _ _ _ _ h3
      simp only [g1, Option.bind_some]; exact finK_sound h2 g2
    | exit id => cases h3
  · cases e

theorem doneK_some {l : Nat} {p : Option CC} {b : Bool} {S : St} {z : SV × St} (e : doneK l p b S = some z) : ∃ r, S.get l = .loop r ∧ z = (.v (.bool b), S.put l (.loop { r with busy := false, pending := p })) := by
  unfold doneK at e
  split at e
  · rename_i r hr; exact ⟨r, hr, by simpa using e.symm⟩
  · cases e

/-- A round, told on. -/
theorem rRound_sound (hcl : Closed k cf) {l : Nat} {r : LoopRec} {args : List SV} {S : St} {z : SV × St} (hb : r.busy = false) (hp : r.pending = none) (hf : S.floor ≤ l) (hlen : args.length = r.params.length)
    (e : rRound k h cf N l r.ρ r.params r.assign r.body args S = some z) : evRound k cf N l r args S = some z := by
  unfold rRound at e
  unfold evRound
  rw [if_neg (by simp [hb, hp, hf, hlen])]
  obtain ⟨x, ρ2, S1, ρ', U', h1, h2, h3, h4⟩ := cCode_sound hcl N r.fn true r.assign 0 _ _ _ _ _ _ _ e _ [] (fun _ _ => rfl)
  simp only [h1, Option.bind_some]
  cases x with
  | ret => cases h4
  | exit id => cases h4
  | normal =>
    simp only [Post] at h4
    unfold busyK at h4
    simp only []
    split at h4
    · rename_i r1 hr1
      split at h4
      · cases h4
      · rename_i hc
        simp only [hr1, if_neg hc]
        obtain ⟨x, ρ3, S2, ρ'', U'', g1, g2, g3, g4⟩ := cCode_sound hcl N r.fn true r.body 0 _ _ _ _ _ _ _ h4 ρ2 [] h2
        simp only [g1, Option.bind_some]
        cases x with
        | normal => obtain ⟨r2, hr2, rfl⟩ := doneK_some g4; simp only [hr2]
        | ret => obtain ⟨r2, hr2, rfl⟩ := doneK_some g4; simp only [hr2]
        | exit id => obtain ⟨r2, hr2, rfl⟩ := doneK_some g4; simp only [hr2]
    · cases h4

/-- Calls, told on. -/
theorem gor_closed {k : K} (hk : KS k) {f : FuncId} {fst cap args : List SV} {S : St} {c : CF} (h : H) (N : Nat) {z : SV × St} (hp : k.prim f = none) (hc : k.fns f = some c) (hm : k.mode f = 3) (e : rBody (k.at f) h (run k) N f c ((fst ++ args ++ cap).map fun x => weak (shut x)) St0 = some z) : run k (.func f fst cap) args S = some (erase z.2 z.1, S) :=
  run_closed N hp hc hm (rBody_sound (k := k.at f) ((run_Closed hk).at f) e)
theorem gor_plain {k : K} (hk : KS k) {f : FuncId} {fst cap args : List SV} {S : St} {c : CF} (h : H) (N : Nat) {z : SV × St} (hp : k.prim f = none) (hc : k.fns f = some c) (hm : k.mode f = 2) (e : rBody (k.at f) h (run k) N f c (fst ++ args ++ cap) S = some z) : run k (.func f fst cap) args S = some z :=
  run_plain N hp hc hm (rBody_sound (k := k.at f) ((run_Closed hk).at f) e)
theorem gor_round {k : K} (hk : KS k) {l : Nat} {r : LoopRec} {args : List SV} {S : St} (h : H) (N : Nat) {z : SV × St} (hl : S.get l = .loop r) (hb : r.busy = false) (hp : r.pending = none) (hf : S.floor ≤ l) (hlen : args.length = r.params.length)
    (e : rRound (k.at r.fn) h (run k) N l r.ρ r.params r.assign r.body args S = some z) : run k (.yield l) args S = some z :=
  run_round N hl (rRound_sound (k := k.at r.fn) ((run_Closed hk).at r.fn) hb hp hf hlen e)
end
end Go.Sv
end
section
namespace Go.Sv
open Go Go.Proofs
set_option linter.all false
set_option maxRecDepth 1000000
set_option maxHeartbeats 0

def rangeOf : CC → Option (Operand × List Nat × CC × CC)
  | .rangeFunc f ps a b => some (f, ps, a, b)
  | .seq a b => (rangeOf a).or (rangeOf b)
  | .block _ b => rangeOf b
  | .loop b => rangeOf b
  | _ => none
def asgOf (c : CC) : CC := match rangeOf c with | some (_, _, a, _) => a | none => .skip
def bdOf (c : CC) : CC := match rangeOf c with | some (_, _, _, b) => b | none => .skip
noncomputable def asg116 : CC := asgOf (compF Tryz.f116).body
noncomputable def bd116 : CC := bdOf (compF Tryz.f116).body
theorem tell116 (N : Nat) (u0 : T57) : rBody (kt.at 116) hh (run kt) N 116 (compF Tryz.f116) [.agg u0.enc] St0 =
 storeK (kt.at 116) 140 (.ptr 1 0) (.map 0) ((St0.alloc (.map [])).alloc (.cells [.v (.map none)])) fun S1 => (run kt (.func 169 [] []) [.agg u0.enc] S1).bind fun p => (run kt p.1 [.yield (p.2.next+1)] (mkLoop 116 (upd (upd (upd (upd (upd (upd (initρ [.agg u0.enc]) 1 (.cp u0.enc)) 2 (.v (.slice none 0 0))) 5 (.map 0)) 3 (.ptr 1 0)) 6 (.agg u0.enc)) 7 p.1) [8] asg116 bd116 p.2)).bind fun q => pendK (q.2.get (p.2.next+1))
  ((loadE (kt.at 116) 140 (.ptr 1 0) (q.2.put (p.2.next+1) .dead)).bind fun r => (run kt (.func 171 [] []) [r] (q.2.put (p.2.next+1) .dead)).bind fun p1 => (run kt (.func 170 [] []) [p1.1] p1.2).bind fun p2 => dropK [p.2.next] p2.2 fun S => some (p2.1, S))
  (dropK [p.2.next] (q.2.put (p.2.next+1) .dead) fun S => some (.v (.slice none 0 0), S)) := by kernel_rfl
theorem fn116 : fnsK 116 = some (compF Tryz.f116) := by kernel_rfl
end Go.Sv
end
section
namespace Go.Sv
open Go Go.Proofs
set_option linter.all false
set_option maxRecDepth 1000000
set_option maxHeartbeats 0
def h203 : H := { hh with live := fun b => match b with | 0 => [(10, 1)] | 2 => [(26, 1)] | _ => [], keep := fun b => match b with  | _ => none }
theorem tell203 (N : Nat) (l : Nat) (u1 : T57) (S : St) : cBody (kt.at 203) h203 (run kt) N (compF Tryz.f203) [.yield l, .cp u1.enc] S = (lenE (kt.at 203) 53 u1.l).bind fun r0 => openInt r0 fun a1 => (iter (fun vs2 S3 => openHd vs2 fun y4 r5 => openInt y4 fun a6 => (splitB (.v (.bool (decide (a6 < a1))))
 ((indexAddrE (kt.at 203) 53 u1.l (.v (.int .i64 a6))).bind fun r7 => openCp cd28 r7 fun t8 => storeK (kt.at 203) 28 (.ptr (St.next S3) 0) (.agg t8.enc) (St.alloc S3 (.cells [(.v (.int .i64 (0 : Int))), (.v (.int .i64 (0 : Int))), (.v (.int .u32 (0 : Int))), (.v (.int .u32 (0 : Int))), (.v (.int .u32 (0 : Int))), (.v (.int .u32 (0 : Int)))])) fun S9 => (loadE (kt.at 203) 28 (.ptr (St.next S3) 0) S9).bind fun r10 => openAgg cd28 r10 fun t11 => (run kt (.yield l) [(.agg t11.enc)] S9).bind fun p12 => openBool p12.1 fun b13 => (splitB (.v (.bool (!b13)))
 ((some (.ret, ([(.v (.int .i64 a6))], p12.2))))
 ((some (.normal, ([(.v (.int .i64 (IntKind.wrap .i64 (a6 + (1 : Int)))))], p12.2))))))
 ((some ((.exit 0), ([(.v (.int .i64 a6))], S3)))))) N [(.v (.int .i64 (0 : Int)))] S).bind fun q14 => openHd q14.2.1 fun y15 r16 => openInt y15 fun a17 => (exits q14.1 (fun i18 => (if i18 = 0 then (splitB (.v (.bool (u1.kind != (2 : Int))))
 ((some ((.tuple []), q14.2.2)))
 ((lenE (kt.at 203) 53 u1.e_L).bind fun r19 => openInt r19 fun a20 => (iter (fun vs21 S22 => openHd vs21 fun y23 r24 => openInt y23 fun a25 => (splitB (.v (.bool (decide (a25 < a20))))
 ((indexAddrE (kt.at 203) 53 u1.e_L (.v (.int .i64 a25))).bind fun r26 => openCp cd28 r26 fun t27 => storeK (kt.at 203) 28 (.ptr (St.next S22) 0) (.agg t27.enc) (St.alloc S22 (.cells [(.v (.int .i64 (0 : Int))), (.v (.int .i64 (0 : Int))), (.v (.int .u32 (0 : Int))), (.v (.int .u32 (0 : Int))), (.v (.int .u32 (0 : Int))), (.v (.int .u32 (0 : Int)))])) fun S28 => (loadE (kt.at 203) 28 (.ptr (St.next S22) 0) S28).bind fun r29 => openAgg cd28 r29 fun t30 => (run kt (.yield l) [(.agg t30.enc)] S28).bind fun p31 => openBool p31.1 fun b32 => (splitB (.v (.bool (!b32)))
 ((some (.ret, ([(.v (.int .i64 a25))], p31.2))))
 ((some (.normal, ([(.v (.int .i64 (IntKind.wrap .i64 (a25 + (1 : Int)))))], p31.2))))))
 ((some ((.exit 2), ([(.v (.int .i64 a25))], S22)))))) N [(.v (.int .i64 (0 : Int)))] q14.2.2).bind fun q33 => openHd q33.2.1 fun y34 r35 => openInt y34 fun a36 => (exits q33.1 (fun i37 => (if i37 = 2 then (some ((.tuple []), q33.2.2)) else none)) ((some ((.tuple []), q33.2.2)))))) else none)) ((some ((.tuple []), q14.2.2)))) := by kernel_rfl
theorem fn203 : fnsK 203 = some (compF Tryz.f203) := by kernel_rfl
def h169 : H := { hh with live := fun b => match b with  | _ => [], keep := fun b => match b with  | _ => none }
theorem tell169 (N : Nat) (u0 : T57) (S : St) : cBody (kt.at 169) h169 (run kt) N (compF Tryz.f169) [.agg u0.enc] S = (some ((.func 203 [] [(.cp u0.enc)]), S)) := by kernel_rfl
theorem fn169 : fnsK 169 = some (compF Tryz.f169) := by kernel_rfl
def h171 : H := { hh with live := fun b => match b with  | _ => [], keep := fun b => match b with  | _ => none }
theorem tell171 (N : Nat) (b0 : Nat) (S : St) : cBody (kt.at 171) h171 (run kt) N (compF Tryz.f171) [.map b0] S = (some ((.func 206 [] [(.ptr (St.next S) 0)]), (St.alloc S (.cells [(.map b0)])))) := by kernel_rfl
theorem fn171 : fnsK 171 = some (compF Tryz.f171) := by kernel_rfl
/-- A round of Uses. -/
theorem tellR116 (N l : Nat) (u0 : T57) (y : SV) (a : T28) (S : St) : rRound (kt.at 116) hh (run kt) N l (upd (upd (upd (upd (upd (upd (initρ [.agg u0.enc]) 1 (.cp u0.enc)) 2 (.v (.slice none 0 0))) 5 (.map 0)) 3 (.ptr 1 0)) 6 (.agg u0.enc)) 7 y) [8] asg116 bd116 [.agg a.enc] S =
 storeK (kt.at 116) 28 (.ptr (St.next S) 0) (.agg a.enc) (St.alloc S (.cells [(.v (.int .i64 (0 : Int))), (.v (.int .i64 (0 : Int))), (.v (.int .u32 (0 : Int))), (.v (.int .u32 (0 : Int))), (.v (.int .u32 (0 : Int))), (.v (.int .u32 (0 : Int)))])) fun S1 => busyK l S1 fun S2 => (loadE (kt.at 116) 3 (.ptr (St.next S) 0) S2).bind fun r => openInt r fun x => splitB (.v (.bool (decide (x ≥ (0 : Int))))) ((loadE (kt.at 116) 140 (.ptr 1 0) S2).bind fun m => (loadE (kt.at 116) 3 (.ptr (St.next S) 0) S2).bind fun r => openInt r fun x => (mapUpdateE (kt.at 116) 140 m (.v (.int .i64 x)) (.v (.bool true)) S2).bind fun S3 => doneK l none true S3) (doneK l none true S2) := by kernel_rfl
end Go.Sv
end
section
namespace Go.Sv
open Go Go.Proofs Go.Proofs.YtkflapebfmcmaaaGreat
set_option linter.all false
set_option maxRecDepth 100000

/-! Which temporaries a statement uses. -/
def usesAt (s : Stmt) : List Atom := s.l ++ if s.kind = 2 then s.e.l else []

theorem insI_mem (x y : Int) (l : List Int) : y ∈ insI x l ↔ y = x ∨ y ∈ l := by
  induction l with
  | nil => simp [insI]
  | cons z r ih =>
    rw [insI]
    split
    · simp
    · simp [ih]; constructor <;> (rintro (h | h | h) <;> simp [h])
theorem sortI_mem (y : Int) (l : List Int) : y ∈ sortI l ↔ y ∈ l := by
  induction l with
  | nil => simp [sortI]
  | cons z r ih => simp [sortI, insI_mem, ih]
theorem insI_len (x : Int) (l : List Int) : (insI x l).length = l.length + 1 := by
  induction l with
  | nil => rfl
  | cons z r ih => rw [insI]; split <;> simp [ih]
theorem sortI_len (l : List Int) : (sortI l).length = l.length := by
  induction l with
  | nil => rfl
  | cons z r ih => simp [sortI, insI_len, ih]

/-- A map of keys. -/
def mkK (ks : List Int) : List (SV × SV) := ks.map fun x => (.v (.int .i64 x), .v (.bool true))
theorem setK_mk (x : Int) : ∀ ks : List Int, ∃ ks', setK x (.v (.bool true)) (mkK ks) = mkK ks' ∧ (∀ y, y ∈ ks' ↔ y = x ∨ y ∈ ks) ∧ ks'.length ≤ ks.length + 1
  | [] => ⟨[x], rfl, by simp, by simp⟩
  | k :: r => by
    obtain ⟨ks', h1, h2, h3⟩ := setK_mk x r
    by_cases h : x = k
    · subst h
      exact ⟨x :: r, by simp [mkK, setK], by simp, by simp⟩
    · refine ⟨k :: ks', by simp only [mkK, List.map_cons, setK, if_neg h]; rw [show r.map (fun x => (SV.v (.int .i64 x), SV.v (.bool true))) = mkK r from rfl, h1]; rfl, fun y => ?_, by simp; omega⟩
      simp only [List.mem_cons, h2]
      constructor <;> (rintro (h | h | h) <;> simp [h])
theorem keysI_mk (ks : List Int) (h : ∀ x ∈ ks, 0 ≤ x ∧ x ≤ 1000000) : keysI (mkK ks) = some ks := by
  induction ks with
  | nil => rfl
  | cons x r ih =>
    have h0 := h x (by simp)
    have := ih fun y hy => h y (by simp [hy])
    simp only [mkK, List.map_cons, keysI]
    rw [if_pos h0, show r.map (fun x => (SV.v (.int .i64 x), SV.v (.bool true))) = mkK r from rfl, this]; rfl

/-- A loop over a list by index that goes on to its end. -/
theorem iter_all {α : Type} {F : List SV → St → Option (Ex × List SV × St)} (l : List α) (vs : Nat → List SV) (I : Nat → St → Prop) (ex : Nat)
    (hstep : ∀ i (h : i < l.length) S, I i S → ∃ S', F (vs i) S = some (.normal, vs (i + 1), S') ∧ I (i + 1) S')
    (hend : ∀ S, I l.length S → F (vs l.length) S = some (.exit ex, vs l.length, S)) :
    ∀ (n i : Nat), n + i = l.length → ∀ (S : St) (M : Nat), I i S → n < M → ∃ S', iter F M (vs i) S = some (.exit ex, vs l.length, S') ∧ I l.length S'
  | 0, i, hi, S, M, hI, hM => by
    obtain ⟨M, rfl⟩ : ∃ m, M = m + 1 := ⟨M - 1, by omega⟩
    have : i = l.length := by omega
    subst this
    exact ⟨S, iter_exit (hend S hI), hI⟩
  | n + 1, i, hi, S, M, hI, hM => by
    obtain ⟨M, rfl⟩ : ∃ m, M = m + 1 := ⟨M - 1, by omega⟩
    obtain ⟨S', h1, h2⟩ := hstep i (by omega) S hI
    obtain ⟨S2, h3, h4⟩ := iter_all l vs I ex hstep hend n (i + 1) (by omega) S' M h2 (by omega)
    exact ⟨S2, by rw [iter_normal h1]; exact h3, h4⟩

theorem spec169 (s : Stmt) (S : St) : run kt (.func 169 [] []) [.agg s.t57.enc] S = some (.func 203 [] [.cp s.t57.enc], S) :=
  go_plain ks_kt (f := 169) (fst := []) (cap := []) h169 0 rfl (fn_kt 169 fn169) rfl (by simpa using tell169 0 s.t57 S)

theorem size28k {k : K} (hP : k.P = Tryz.prog) : size? k 28 = some 6 := size_of hP size28'
/-- The atoms of a statement, one by one, as long as the loop goes on. -/
theorem spec203 (s : Stmt) (l : Nat) (h1 : s.l.length ≤ 1000000) (h2 : s.e.l.length ≤ 1000000) (I : List Atom → St → Prop)
    (hfl : ∀ d S, I d S → S.floor ≤ S.next)
    (hbox : ∀ d S z o, I d S → I d (boxed S z o))
    (hround : ∀ d a S, a ∈ usesAt s → I d S → ∃ S', run kt (.yield l) [.agg a.t28.enc] S = some (.v (.bool true), S') ∧ I (d ++ [a]) S') (S : St) (hI : I [] S) :
    ∃ S', run kt (.func 203 [] [.cp s.t57.enc]) [.yield l] S = some (.tuple [], S') ∧ I (usesAt s) S' := by
  suffices ∃ S', cBody (kt.at 203) h203 (run kt) 1000001 (compF Tryz.f203) [.yield l, .cp s.t57.enc] S = some (.tuple [], S') ∧ I (usesAt s) S' by
    obtain ⟨S', h1, h2⟩ := this
    exact ⟨S', go_plain ks_kt (f := 203) (fst := []) (cap := [.cp s.t57.enc]) h203 1000001 rfl (fn_kt 203 fn203) rfl (by simpa using h1), h2⟩
  rw [tell203]
  simp only [Stmt.t57, len_atoms (P_kt 203), Option.bind_some, openInt_v, splitB_dec]
  generalize hF : (fun vs0 S1 => _ : List SV → St → Option (Ex × List SV × St)) = F
  obtain ⟨S1, e1, i1⟩ := iter_all (F := F) s.l (fun i => [.v (.int .i64 (i : Int))]) (fun i => I (s.l.take i)) 0
    (fun i h S hI => by
      obtain ⟨S', g1, g2⟩ := hround _ s.l[i] _ (by simp [usesAt]) (hbox _ S (.cells [(.v (.int .i64 (0 : Int))), (.v (.int .i64 (0 : Int))), (.v (.int .u32 (0 : Int))), (.v (.int .u32 (0 : Int))), (.v (.int .u32 (0 : Int))), (.v (.int .u32 (0 : Int)))]) (.cells s.l[i].t28.enc) hI)
      refine ⟨S', ?_, by rw [List.take_succ_eq_append_getElem h]; exact g2⟩
      rw [← hF]
      simp only [openHd_v, openInt_v]
      rw [if_pos (by omega), index_atoms (P_kt 203) .i64 s.l i h]
      simp only [Option.bind_some, openCp28']
      rw [store_box (size28k (P_kt 203)) (by decide) (hfl _ _ hI) rfl rfl, load_box (agg_st (P_kt 203) Tryz.underlying28) (size28k (P_kt 203)) rfl]
      simp only [Option.bind_some, openAgg28, g1, openBool_v, Bool.not_true, splitB_f]
      rw [wrap_in (by omega) (by omega)]
      rfl)
    (fun S hI => by
      rw [← hF]
      simp only [openHd_v, openInt_v]
      rw [if_neg (by omega)]) s.l.length 0 rfl S 1000001 (by simpa using hI) (by omega)
  have e1 : iter F 1000001 [.v (.int .i64 0)] S = _ := e1
  rw [e1]
  rw [List.take_length] at i1
  simp only [Option.bind_some, openHd_v, openInt_v, exits_exit, if_true]
  by_cases hk : s.kind = 2
  · have hkb : (s.kind != 2) = false := by simp [hk]
    have hu : usesAt s = s.l ++ s.e.l := by simp [usesAt, hk]
    rw [hkb, splitB_f]
    generalize hF : (fun vs0 S1 => _ : List SV → St → Option (Ex × List SV × St)) = F
    obtain ⟨S2, e2, i2⟩ := iter_all (F := F) s.e.l (fun i => [.v (.int .i64 (i : Int))]) (fun i => I (s.l ++ s.e.l.take i)) 2
      (fun i h S hI => by
        obtain ⟨S', g1, g2⟩ := hround _ s.e.l[i] _ (by simp [hu]) (hbox _ S (.cells [(.v (.int .i64 (0 : Int))), (.v (.int .i64 (0 : Int))), (.v (.int .u32 (0 : Int))), (.v (.int .u32 (0 : Int))), (.v (.int .u32 (0 : Int))), (.v (.int .u32 (0 : Int)))]) (.cells s.e.l[i].t28.enc) hI)
        refine ⟨S', ?_, by rw [List.take_succ_eq_append_getElem h, ← List.append_assoc]; exact g2⟩
        rw [← hF]
        simp only [openHd_v, openInt_v]
        rw [if_pos (by omega), index_atoms (P_kt 203) .i64 s.e.l i h]
        simp only [Option.bind_some, openCp28']
        rw [store_box (size28k (P_kt 203)) (by decide) (hfl _ _ hI) rfl rfl, load_box (agg_st (P_kt 203) Tryz.underlying28) (size28k (P_kt 203)) rfl]
        simp only [Option.bind_some, openAgg28, g1, openBool_v, Bool.not_true, splitB_f]
        rw [wrap_in (by omega) (by omega)]
        rfl)
      (fun S hI => by
        rw [← hF]
        simp only [openHd_v, openInt_v]
        rw [if_neg (by omega)]) s.e.l.length 0 rfl S1 1000001 (by simpa using i1) (by omega)
    have e2 : iter F 1000001 [.v (.int .i64 0)] S1 = _ := e2
    rw [e2]
    rw [List.take_length] at i2
    simp only [Option.bind_some, openHd_v, openInt_v, exits_exit, if_true]
    exact ⟨S2, rfl, by rw [hu]; exact i2⟩
  · have hkb : (s.kind != 2) = true := by simpa using hk
    rw [hkb, splitB_t]
    exact ⟨S1, rfl, by simpa [usesAt, hk] using i1⟩

theorem im116 : intMap? (kt.at 116) 140 = some 4 := by kernel_rfl
theorem ag140 {k : K} (hP : k.P = Tryz.prog) : agg? k 140 = some false := by unfold agg?; rw [hP, Tryz.underlying140]
theorem sz140 {k : K} (hP : k.P = Tryz.prog) : size? k 140 = some 1 := size_of hP (by kernel_rfl)

/-- What the loop of Uses has behind so many atoms. -/
structure InvU (ρ : Nat → SV) (d : List Atom) (S : St) : Prop where
  fl : S.floor = 0
  nx : 4 ≤ S.next
  c1 : S.get 1 = .cells [.map 0]
  c2 : S.get 2 = .dfr
  c3 : S.get 3 = .loop ⟨116, ρ, [8], asg116, bd116, 2, none, false⟩
  ks : ∃ ks, S.get 0 = .map (mkK ks) ∧ (∀ x, x ∈ ks ↔ 0 ≤ x ∧ ∃ a ∈ d, a.tmp = x) ∧ ks.length ≤ d.length

theorem InvU.box {ρ : Nat → SV} {d : List Atom} {S : St} (h : InvU ρ d S) (z o : SObj) : InvU ρ d (boxed S z o) := by
  obtain ⟨f, n, c1, c2, c3, ks, k1, k2, k3⟩ := h
  exact ⟨f, by rw [boxed_next]; omega, by rw [boxed_get _ _ _ _ (by omega)]; exact c1, by rw [boxed_get _ _ _ _ (by omega)]; exact c2, by rw [boxed_get _ _ _ _ (by omega)]; exact c3, ks, by rw [boxed_get _ _ _ _ (by omega)]; exact k1, k2, k3⟩

theorem roundU (u0 : T57) (y : SV) (d : List Atom) (a : Atom) (S : St)
    (h : InvU (upd (upd (upd (upd (upd (upd (initρ [.agg u0.enc]) 1 (.cp u0.enc)) 2 (.v (.slice none 0 0))) 5 (.map 0)) 3 (.ptr 1 0)) 6 (.agg u0.enc)) 7 y) d S) :
    ∃ S', run kt (.yield 3) [.agg a.t28.enc] S = some (.v (.bool true), S') ∧ InvU (upd (upd (upd (upd (upd (upd (initρ [.agg u0.enc]) 1 (.cp u0.enc)) 2 (.v (.slice none 0 0))) 5 (.map 0)) 3 (.ptr 1 0)) 6 (.agg u0.enc)) 7 y) (d ++ [a]) S' := by
  generalize hρ : (upd (upd (upd (upd (upd (upd (initρ [.agg u0.enc]) 1 (.cp u0.enc)) 2 (.v (.slice none 0 0))) 5 (.map 0)) 3 (.ptr 1 0)) 6 (.agg u0.enc)) 7 y) = ρ at h ⊢
  suffices ∃ S', rRound (kt.at 116) hh (run kt) 0 3 ρ [8] asg116 bd116 [.agg a.t28.enc] S = some (.v (.bool true), S') ∧ InvU ρ (d ++ [a]) S' by
    obtain ⟨S', h1, h2⟩ := this
    exact ⟨S', gor_round ks_kt hh 0 h.c3 rfl rfl (by rw [h.fl]; decide) rfl h1, h2⟩
  rw [← hρ, tellR116, hρ]
  clear hρ
  have hz := h.box (.cells [(.v (.int .i64 (0 : Int))), (.v (.int .i64 (0 : Int))), (.v (.int .u32 (0 : Int))), (.v (.int .u32 (0 : Int))), (.v (.int .u32 (0 : Int))), (.v (.int .u32 (0 : Int)))]) (.cells a.t28.enc)
  rw [store_box (size28k (P_kt 116)) (by decide) (by rw [h.fl]; omega) rfl rfl]
  have hg := boxed_self S (.cells [(.v (.int .i64 (0 : Int))), (.v (.int .i64 (0 : Int))), (.v (.int .u32 (0 : Int))), (.v (.int .u32 (0 : Int))), (.v (.int .u32 (0 : Int))), (.v (.int .u32 (0 : Int)))]) (.cells a.t28.enc)
  generalize boxed S _ _ = S1 at hz hg
  have hn := h.nx
  generalize St.next S = b at hg hn
  unfold busyK
  rw [hz.c3]
  simp only [Bool.false_eq_true, Option.isSome_none, or_self, if_false]
  obtain ⟨f, n, c1, c2, c3, ks, k1, k2, k3⟩ := hz
  have gb : ∀ i, i ≠ 3 → (S1.put 3 (.loop ⟨116, ρ, [8], asg116, bd116, 2, none, true⟩)).get i = S1.get i := fun i hi => get_put _ _ _ _ hi
  have lda : loadE (kt.at 116) 3 (.ptr b 0) (S1.put 3 (.loop ⟨116, ρ, [8], asg116, bd116, 2, none, true⟩)) = some (.v (.int .i64 a.tmp)) := by
    rw [ld1 (ag3 (P_kt 116)) (sz3 (P_kt 116)) (by rw [gb b (by omega)]; exact hg)]; rfl
  have ldm : loadE (kt.at 116) 140 (.ptr 1 0) (S1.put 3 (.loop ⟨116, ρ, [8], asg116, bd116, 2, none, true⟩)) = some (.map 0) := by
    rw [ld1 (ag140 (P_kt 116)) (sz140 (P_kt 116)) (by rw [gb 1 (by omega)]; exact c1)]; rfl
  simp only [lda, ldm, Option.bind_some, openInt_v, splitB_dec]
  have done : ∀ S2 : St, S2.get 3 = .loop ⟨116, ρ, [8], asg116, bd116, 2, none, true⟩ → doneK 3 none true S2 = some (.v (.bool true), S2.put 3 (.loop ⟨116, ρ, [8], asg116, bd116, 2, none, false⟩)) := by
    intro S2 h; unfold doneK; rw [h]
  by_cases hp : a.tmp ≥ 0
  · rw [if_pos hp]
    obtain ⟨ks', e1, e2, e3⟩ := setK_mk a.tmp ks
    rw [mapU im116 (es := mkK ks) (by rw [gb 0 (by omega)]; exact k1) (by show S1.floor ≤ 0; omega) rfl, e1]
    simp only [Option.bind_some]
    rw [done _ (by rw [get_put _ _ _ _ (by decide)]; exact put_get _ _ _)]
    refine ⟨_, rfl, f, n, ?_, ?_, put_get _ _ _, ks', ?_, ?_, ?_⟩
    · rw [get_put _ _ _ _ (by decide), get_put _ _ _ _ (by decide), gb 1 (by decide)]; exact c1
    · rw [get_put _ _ _ _ (by decide), get_put _ _ _ _ (by decide), gb 2 (by decide)]; exact c2
    · rw [get_put _ _ _ _ (by decide)]; exact put_get _ _ _
    · intro x
      rw [e2, k2]
      simp only [List.mem_append, List.mem_singleton]
      constructor
      · rintro (rfl | ⟨h0, c, hc, e⟩)
        · exact ⟨hp, a, .inr rfl, rfl⟩
        · exact ⟨h0, c, .inl hc, e⟩
      · rintro ⟨h0, c, hc | rfl, e⟩
        · exact .inr ⟨h0, c, hc, e⟩
        · exact .inl e.symm
    · simp; omega
  · rw [if_neg hp, done _ (put_get _ _ _)]
    refine ⟨_, rfl, f, n, ?_, ?_, put_get _ _ _, ks, ?_, ?_, ?_⟩
    · rw [get_put _ _ _ _ (by decide), gb 1 (by decide)]; exact c1
    · rw [get_put _ _ _ _ (by decide), gb 2 (by decide)]; exact c2
    · rw [get_put _ _ _ _ (by decide), gb 0 (by decide)]; exact k1
    · intro x
      rw [k2]
      simp only [List.mem_append, List.mem_singleton]
      constructor
      · rintro ⟨h0, c, hc, e⟩; exact ⟨h0, c, .inl hc, e⟩
      · rintro ⟨h0, c, hc | rfl, e⟩
        · exact ⟨h0, c, hc, e⟩
        · omega
    · simp; omega

theorem spec171 (b : Nat) (S : St) : run kt (.func 171 [] []) [.map b] S = some (.func 206 [] [.ptr S.next 0], S.alloc (.cells [.map b])) :=
  go_plain ks_kt (f := 171) (fst := []) (cap := []) h171 0 rfl (fn_kt 171 fn171) rfl (by simpa using tell171 0 b S)

theorem spec116 (s : Stmt) (h1 : s.l.length ≤ 400000) (h2 : s.e.l.length ≤ 400000) (hb : ∀ a ∈ usesAt s, a.tmp ≤ 1000000) (S : St) : ∃ U, run kt (.func 116 [] []) [.agg s.t57.enc] S = some (nums U, S) ∧ (∀ x, x ∈ U ↔ 0 ≤ x ∧ ∃ a ∈ usesAt s, a.tmp = x) ∧ U.length ≤ 1000000 := by
  have hlen : (usesAt s).length ≤ 800000 := by
    unfold usesAt
    rw [List.length_append]
    split
    · omega
    · simp; omega
  suffices ∃ y S2 U, rBody (kt.at 116) hh (run kt) 0 116 (compF Tryz.f116) [.agg s.t57.enc] St0 = some (y, S2) ∧ erase S2 y = nums U ∧ (∀ x, x ∈ U ↔ 0 ≤ x ∧ ∃ a ∈ usesAt s, a.tmp = x) ∧ U.length ≤ 1000000 by
    obtain ⟨y, S2, U, h1, h2, h3, h4⟩ := this
    refine ⟨U, ?_, h3, h4⟩
    have := gor_closed ks_kt (f := 116) (fst := []) (cap := []) (args := [.agg s.t57.enc]) (S := S) hh 0 rfl (fn_kt 116 fn116) rfl (z := (y, S2)) (by
      simp only [List.nil_append, List.append_nil, List.map_cons, List.map_nil, stmt_ws]
      exact h1)
    rw [h2] at this
    exact this
  rw [tell116, st1 (sz140 (P_kt 116)) (cs := [.v (.map none)]) (by simp [St.alloc, St0]) (Nat.zero_le _) (by simp) rfl]
  have hS1 : ∃ S1, (St.put ((St0.alloc (.map [])).alloc (.cells [.v (.map none)])) 1 (.cells (splice [.v (.map none)] 0 [.map 0]))) = S1 ∧ S1.get 1 = .cells [.map 0] ∧ S1.get 0 = .map [] ∧ S1.floor = 0 ∧ S1.next = 2 := ⟨_, rfl, by simp [St.put, splice], by simp [St.put, St.alloc, St0], rfl, rfl⟩
  obtain ⟨S1, e1, g1, g0, f1, n1⟩ := hS1
  rw [e1]
  clear e1
  simp only [spec169, Option.bind_some, n1]
  generalize hρ : (upd (upd (upd (upd (upd (upd (initρ [.agg s.t57.enc]) 1 (.cp s.t57.enc)) 2 (.v (.slice none 0 0))) 5 (.map 0)) 3 (.ptr 1 0)) 6 (.agg s.t57.enc)) 7 (.func 203 [] [.cp s.t57.enc])) = ρ
  have hinv : InvU ρ [] (mkLoop 116 ρ [8] asg116 bd116 S1) := by
    unfold mkLoop
    refine ⟨f1, by simp [St.alloc, n1], ?_, ?_, ?_, [], ?_, by simp, by simp⟩
    · rw [get_new _ _ _ (by simp [St.alloc, n1]), get_new _ _ _ (by omega)]; exact g1
    · rw [get_new _ _ _ (by simp [St.alloc, n1])]; simp [St.alloc, n1]
    · simp [St.alloc, n1]
    · rw [get_new _ _ _ (by simp [St.alloc, n1]), get_new _ _ _ (by omega)]; exact g0
  obtain ⟨S3, h3, i3⟩ := spec203 s 3 (by omega) (by omega) (fun d S => InvU ρ d S) (fun d S h => by rw [h.fl]; omega) (fun d S z o h => h.box z o) (fun d a S _ h => by
    subst hρ
    exact roundU s.t57 _ d a S h) _ hinv
  rw [h3]
  simp only [Option.bind_some]
  obtain ⟨f, n, c1, c2, c3, ks, k1, k2, k3⟩ := i3
  rw [c3]
  unfold pendK
  simp only [Bool.false_eq_true, if_false]
  have gd : ∀ i, i ≠ 3 → (S3.put 3 .dead).get i = S3.get i := fun i hi => get_put _ _ _ _ hi
  rw [ld1 (ag140 (P_kt 116)) (sz140 (P_kt 116)) (by rw [gd 1 (by decide)]; exact c1)]
  simp only [List.drop_zero, List.head?_cons, Option.bind_some, spec171]
  have hkr : ∀ x ∈ ks, 0 ≤ x ∧ x ≤ 1000000 := by
    intro x hx
    obtain ⟨h0, a, ha, rfl⟩ := (k2 x).1 hx
    exact ⟨h0, hb a ha⟩
  have n3 : (S3.put 3 .dead).next = S3.next := rfl
  have hp : ∃ y S4, run kt (.func 170 [] []) [.func 206 [] [.ptr (S3.put 3 .dead).next 0]] ((S3.put 3 .dead).alloc (.cells [.map 0])) = some (y, S4) ∧ erase S4 y = nums (sortI ks) ∧ S4.get 2 = .dfr ∧ S4.floor = 0 ∧ (∀ S', erase S' y = nums (sortI ks)) := by
    have ga : ((S3.put 3 .dead).alloc (.cells [.map 0])).get S3.next = .cells [.map 0] := by simp [St.alloc, St.put]
    have g0' : ((S3.put 3 .dead).alloc (.cells [.map 0])).get 0 = .map (mkK ks) := by rw [get_new _ _ _ (by rw [n3]; omega), gd 0 (by decide)]; exact k1
    have g2' : ((S3.put 3 .dead).alloc (.cells [.map 0])).get 2 = .dfr := by rw [get_new _ _ _ (by rw [n3]; omega), gd 2 (by decide)]; exact c2
    have hs : sorted [.func 206 [] [.ptr S3.next 0]] ((S3.put 3 .dead).alloc (.cells [.map 0])) = some (if ks.length = 0 then (.v (.slice none 0 0), (S3.put 3 .dead).alloc (.cells [.map 0])) else (.sl (some ((S3.put 3 .dead).alloc (.cells [.map 0])).next) ks.length ((sortI ks).map fun x => .v (.int .i64 x)), ((S3.put 3 .dead).alloc (.cells [.map 0])).alloc (.own 1 ks.length))) := by
      simp only [sorted, ga, g0']
      rw [if_pos (by simp [mkK]; omega), keysI_mk ks hkr]
      simp only [Option.map_some]
    have hr := run_prim (k := kt) (f := 170) (fst := []) (cap := []) (args := [.func 206 [] [.ptr S3.next 0]]) (S := (S3.put 3 .dead).alloc (.cells [.map 0])) (p := sorted) rfl hs
    rw [n3]
    by_cases h0 : ks.length = 0
    · rw [if_pos h0] at hr
      have : ks = [] := List.eq_nil_of_length_eq_zero h0
      subst this
      exact ⟨_, _, hr, rfl, g2', f, fun _ => rfl⟩
    · rw [if_neg h0] at hr
      have he : ∀ S', erase S' (SV.sl (some ((S3.put 3 .dead).alloc (.cells [.map 0])).next) ks.length ((sortI ks).map fun x => .v (.int .i64 x))) = nums (sortI ks) := by
        intro S'
        simp only [erase]
        rw [← ic_flat, eraseL_nums, ← sortI_len ks]; rfl
      exact ⟨_, _, hr, he _, by rw [get_new _ _ _ (by show 2 < S3.next + 1; omega)]; exact g2', f, he⟩
  obtain ⟨y, S4, r1, r2, r3, r4, r5⟩ := hp
  rw [r1]
  simp only [Option.bind_some, dropK, r3]
  rw [if_pos (by omega)]
  exact ⟨y, _, sortI ks, rfl, r5 _, fun x => by rw [sortI_mem]; exact k2 x, by rw [sortI_len]; omega⟩
end Go.Sv
end
