/- Parts of the proofs of this seat's laws. -/
import Derived.Test.YtkflapebfmcmaaaGreatBOnce14
section
set_option linter.all false
/- Code, told on. -/
namespace Go.Sv
open Go

/-- Rounds over what a loop keeps. -/
def iter (F : List SV → St → Option (Ex × List SV × St)) : Nat → List SV → St → Option (Ex × List SV × St)
  | 0, _, _ => none
  | n + 1, vs, S => (F vs S).bind fun r =>
    match r.1 with
    | .normal => iter F n r.2.1 r.2.2
    | _ => some r

def dsts : CC → List Nat
  | .reg ops | .rdraw ops _ => ops.filterMap (·.dst)
  | .seq a b | .cond _ a b => dsts a ++ dsts b
  | .block _ b | .loop b => dsts b
  | _ => []

/-- The temporaries as a loop keeps them. -/
def updL : List (Nat × Nat) → List SV → (Nat → SV) → Nat → SV
  | (t, _) :: hs, x :: xs, ρ => upd (updL hs xs ρ) t x
  | _, _, ρ => ρ

/-- What is not known behind a loop. -/
def loopU (L : List (Nat × Nat)) (U : List Nat) : List Nat := U.filter fun t => !(L.map (·.1)).contains t

def keepL (L : List (Nat × Nat)) (e : Ex) (ρ : Nat → SV) (U : List Nat) (S : St) : Option (Ex × List SV × St) :=
  if (L.all fun p => !U.contains p.1) = true then some (e, L.map fun p => ρ p.1, S) else none

section
variable {Z : Type} (k : K) (h : H) (cf : CallF)

/-- A read in such a region: of a place that was there when it began. -/
def loadK (m : Nat) (t : TypeId) (a : SV) (S : St) (K : SV → Option Z) : Option Z :=
  match a with
  | .ptr b off => if b < m then (loadE k t (.ptr b off) S).bind K else none
  | y => (loadE k t y S).bind K

/-- One operation of a region that is carried out in any order. -/
def cOpD (m : Nat) (o : COp) (ρ : Nat → SV) (S : St) (K : SV → St → Option Z) : Option Z :=
  match o.op with
  | .load t a => loadK k m t (ev ρ a) S fun x => openTy k h t x fun x => K x S
  | _ => if cls k o = .wild then cOp k h cf o ρ S fun x S' => if m ≤ S'.next then K x S' else none else cOp k h cf o ρ S K

def cSkip (m : Nat) (o : COp) (ρ : Nat → SV) (K : Option Z) : Option Z := if loadOK m o ρ = true then K else none

/-- What is asked where a watched place may have been written. -/
def askK (ws : List (TypeId × SV)) (S S' : St) (K : Option Z) : Option Z :=
  match ws with
  | [] => K
  | w :: r => if asked k (w :: r) S S' = true then K else none

def cOpsD (deps : List (List Nat)) (m : Nat) : List (Nat × COp) → (Nat → SV) → List Nat → Watch → St → ((Nat → SV) → List Nat → St → Option Z) → Option Z
  | [], ρ, U, _, S, K => K ρ U S
  | o :: r, ρ, U, W, S, K =>
    if known U o.2 = true ∧ isDefer o.2.op = false then
      match o.2.g with
      | none => cOpD k h cf m o.2 ρ S fun x S' => askK k (askW k deps o.1 o.2 W) S S' (cOpsD deps m r (updO ρ o.2.dst x) (dropO U o.2.dst) (addW o.1 o.2 ρ W) S' K)
      | some (t, w) =>
        splitG (ρ t)
          (if w = true then cOpD k h cf m o.2 (upd ρ t (.v (.bool true))) S fun x S' => askK k (askW k deps o.1 o.2 W) S S' (cOpsD deps m r (updO (upd ρ t (.v (.bool true))) o.2.dst x) (dropO U o.2.dst) (addW o.1 o.2 (upd ρ t (.v (.bool true))) W) S' K)
            else cSkip m o.2 ρ (askK k (askW k deps o.1 o.2 W) S S (cOpsD deps m r (updO (upd ρ t (.v (.bool true))) o.2.dst (.v undef)) (dropO U o.2.dst) (addW o.1 o.2 (upd ρ t (.v (.bool true))) W) S K)))
          (if w = true then cSkip m o.2 ρ (askK k (askW k deps o.1 o.2 W) S S (cOpsD deps m r (updO (upd ρ t (.v (.bool false))) o.2.dst (.v undef)) (dropO U o.2.dst) (addW o.1 o.2 (upd ρ t (.v (.bool false))) W) S K))
            else cOpD k h cf m o.2 (upd ρ t (.v (.bool false))) S fun x S' => askK k (askW k deps o.1 o.2 W) S S' (cOpsD deps m r (updO (upd ρ t (.v (.bool false))) o.2.dst x) (dropO U o.2.dst) (addW o.1 o.2 (upd ρ t (.v (.bool false))) W) S' K))
          (cSkip m o.2 ρ (askK k (askW k deps o.1 o.2 W) S S (cOpsD deps m r (updO ρ o.2.dst (.v undef)) (dropO U o.2.dst) (addW o.1 o.2 ρ W) S K)))
    else none

end

/-- Regions that only look at the state. -/
def calm (k : K) (ops : List COp) : Bool := (ops.all fun o => decide (cls k o = .pure ∨ cls k o = .load ∨ cls k o = .peek))

def firstDst (ops : List COp) : Nat := match ops.head? with | some o => o.dst.getD 0 | none => 0

def keepR (L : List (Nat × Nat)) (ρ : Nat → SV) (U : List Nat) : Option (List SV) :=
  if (L.all fun p => !U.contains p.1) = true then some (L.map fun p => ρ p.1) else none

/-- A region with guards: what it hands on is gathered, then it goes on. -/
def gather {Z : Type} (k : K) (h : H) (ops : List COp) (ρ : Nat → SV) (U : List Nat) (S : St) (F : {Y : Type} → ((Nat → SV) → List Nat → St → Option Y) → Option Y) (Kn : (Nat → SV) → List Nat → St → Option Z) : Option Z :=
  match h.keep (firstDst ops) with
  | none => F Kn
  | some L => if calm k ops = true ∧ (ops.any fun o => o.g.isSome) = true then (F fun ρ U _ => keepR L ρ U).bind fun vs => openL L vs fun ys => Kn (updL L ys ρ) (loopU L (U ++ dsts (.reg ops))) S else F Kn

def exits {Z : Type} (e : Ex) (Kx : Nat → Option Z) (Kr : Option Z) : Option Z :=
  match e with
  | .normal => none
  | .exit id => Kx id
  | .ret => Kr

def cCode (k : K) (h : H) (cf : CallF) (N : Nat) : CC → Nat → {Z : Type} → (Nat → SV) → List Nat → St → ((Nat → SV) → List Nat → St → Option Z) → (Nat → (Nat → SV) → List Nat → St → Option Z) → ((Nat → SV) → List Nat → St → Option Z) → Option Z
  | .skip, _, _, ρ, U, S, Kn, _, _ => Kn ρ U S
  | .reg ops, _, _, ρ, U, S, Kn, _, _ => gather k h ops ρ U S (fun K => cOps k h cf ops ρ U S K) Kn
  | .rdraw ops deps, _, _, ρ, U, S, Kn, _, _ => if drawOK k ops (closeD deps) = true then gather k h ops ρ U S (fun K => cOpsD k h cf (closeD deps) S.next (number ops) ρ U [] S K) Kn else none
  | .seq a b, bid, _, ρ, U, S, Kn, Kx, Kr => cCode k h cf N a bid ρ U S (fun ρ U S => cCode k h cf N b bid ρ U S Kn Kx Kr) Kx Kr
  | .cond x a b, bid, _, ρ, U, S, Kn, Kx, Kr =>
    match x with
    | .tmp t => if U.contains t = true then none else splitB (ρ t) (cCode k h cf N a bid (upd ρ t (.v (.bool true))) U S Kn Kx Kr) (cCode k h cf N b bid (upd ρ t (.v (.bool false))) U S Kn Kx Kr)
    | .const (.bool true) => cCode k h cf N a bid ρ U S Kn Kx Kr
    | .const (.bool false) => cCode k h cf N b bid ρ U S Kn Kx Kr
    | _ => none
  | .block id b, _, _, ρ, U, S, Kn, Kx, Kr => cCode k h cf N b id ρ U S Kn (fun id' ρ U S => if id' = id then Kn ρ U S else Kx id' ρ U S) Kr
  | .loop b, bid, _, ρ, U, S, _, Kx, Kr =>
    if ((h.live bid).all fun p => !U.contains p.1) = true then
      (iter (fun vs S => openL (h.live bid) vs fun ys => cCode k h cf N b bid (updL (h.live bid) ys ρ) (loopU (h.live bid) (U ++ dsts b)) S
          (fun ρ U S => keepL (h.live bid) .normal ρ U S)
          (fun id ρ U S => keepL (h.live bid) (.exit id) ρ U S)
          (fun ρ U S => keepL (h.live bid) .ret ρ U S)) N ((h.live bid).map fun p => ρ p.1) S).bind fun r =>
        openL (h.live bid) r.2.1 fun ys =>
        match r.1 with
        | .normal => none
        | .exit id => Kx id (updL (h.live bid) ys ρ) (loopU (h.live bid) (U ++ dsts b)) r.2.2
        | .ret => Kr (updL (h.live bid) ys ρ) (loopU (h.live bid) (U ++ dsts b)) r.2.2
    else none
  | .exit id, _, _, ρ, U, S, _, Kx, _ => Kx id ρ U S
  | .ret, _, _, ρ, U, S, _, _, Kr => Kr ρ U S
  | .rangeFunc _ _ _ _, _, _, _, _, _, _, _, _ => none
  | .bad, _, _, _, _, _, _, _, _ => none

section
variable {Z : Type} (k : K) (h : H) (cf : CallF)

def resK (r : ResultVar) (ρ : Nat → SV) (U : List Nat) (S : St) (K : SV → Option Z) : Option Z :=
  match r with
  | .tmp t => if U.contains t = true then none else K (ρ t)
  | .cell a t => if U.contains a = true then none else (loadE k t (ρ a) S).bind K

def resKs : List ResultVar → (Nat → SV) → List Nat → St → (List SV → Option Z) → Option Z
  | [], _, _, _, K => K []
  | r :: rs, ρ, U, S, K => resK k r ρ U S fun x => resKs rs ρ U S fun xs => K (x :: xs)

def finK (rs : List ResultVar) (ρ : Nat → SV) (U : List Nat) (S : St) : Option (SV × St) :=
  match rs with
  | [r] => resK k r ρ U S fun x => some (x, S)
  | rs => resKs k rs ρ U S fun xs => some (.tuple xs, S)

def cBody (N : Nat) (c : CF) (args : List SV) (S : St) : Option (SV × St) :=
  if args.length ≤ c.nt then cCode k h cf N c.body 0 (initρ args) [] S (finK k c.res) (fun _ _ _ _ => none) (finK k c.res) else none
end
end Go.Sv
end
