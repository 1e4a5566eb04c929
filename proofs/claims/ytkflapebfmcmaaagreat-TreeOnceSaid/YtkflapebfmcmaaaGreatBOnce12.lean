/- Parts of the proofs of this seat's laws. -/
import Derived.Test.YtkflapebfmcmaaaGreatChecked
import Derived.KernelRfl
import Derived.Test.YtkflapebfmcmaaaGreatBOnce11
section
set_option linter.all false
namespace Go.Sv
open Go Go.Proofs
def modes : List Nat := [2, 2, 2, 3, 3, 3, 3, 3, 3, 3, 3, 3, 3, 3, 3, 3, 3, 3, 3, 3, 3, 3, 3, 3, 3, 3, 3, 3, 3, 3, 3, 3, 3, 3, 3, 3, 3, 3, 3, 3, 3, 3, 3, 3, 3, 3, 3, 3, 3, 3, 3, 3, 3, 3, 3, 2, 2, 2, 2, 2, 2, 3, 3, 3, 3, 3, 3, 3, 3, 2, 2, 2, 2, 2, 2, 2, 3, 3, 3, 3, 3, 3, 3, 3, 2, 3, 3, 3, 3, 3, 3, 0, 2, 3, 3, 3, 3, 2, 3, 3, 2, 2, 2, 3, 3, 3, 3, 3, 3, 0, 3, 3, 0, 3, 0, 3, 3, 0, 3, 3, 3, 3, 2, 0, 3, 2, 2, 2, 2, 3, 3, 3, 3, 3, 3, 3, 3, 3, 3, 3, 3, 3, 2, 3, 3, 3, 3, 3, 2, 3, 3, 2, 2, 0, 2, 3, 3, 3, 3, 0, 0, 3, 3, 3, 0, 3, 3, 3, 3, 2, 2, 2, 3, 3, 3, 3, 0, 2, 2, 3, 3, 3, 2, 2, 2, 2, 2, 2, 2, 2, 3, 3, 3, 3, 2, 3, 3, 3, 3, 3, 3, 3, 3, 2, 2, 2, 2, 2, 2, 2, 2, 2, 2, 2, 2, 2, 2, 2, 2, 2, 2, 2, 2, 2, 2, 2, 2, 2, 2]
def NOTSTILL : List Nat := [20, 21, 30, 41, 51, 55, 146, 147, 212, 171]
def okF (fn : Func) : Bool := fn.body.isSome && !(fn.name == "runtime.NumGoroutine") && wfC fn.ntmps (compF fn).body && decide (fn.ntmps ≤ 1000000)
def boxes (f t : Nat) : Nat := if f = 14 ∧ t = 98 then 1 else if f = 60 ∧ t = 98 then 1 else if f = 59 ∧ t = 98 then 1 else if f = 123 ∧ t = 98 then 1 else if f = 10 ∧ t = 28 then 2 else if f = 15 ∧ t = 3 then 2 else if f = 15 ∧ t = 108 then 2 else if f = 19 ∧ t = 3 then 2 else if f = 19 ∧ t = 108 then 2 else if f = 21 ∧ t = 108 then 2 else if f = 12 then 2 else 0
def eqs (t : TypeId) : Option (List IntKind) := if t = 28 then some [.i64,.i64,.u32,.u32,.u32,.u32] else if t = 26 then some [.u32,.u32,.u32,.u32] else if t = 108 then some [.u32,.i64] else none
def clone (sz by_ : Nat) (xs : List SV) (S : St) : Option (SV × St) :=
  match xs with
  | [.sl _ n cs] => if n = 0 then some (.emp, S) else if cs.length = n * sz ∧ n * by_ ≤ room then some (.sl (some S.next) n cs, S.alloc (.own sz cs.length)) else none
  | [.emp] => some (.emp, S)
  | [.v (.slice none 0 0)] => some (.emp, S)
  | _ => none
def delete (sz : Nat) (xs : List SV) (S : St) : Option (SV × St) :=
  match xs with
  | [.arr b n, .v (.int .i64 i), .v (.int .i64 j)] => match S.get b with
    | .arr s cs => if s = sz ∧ S.floor ≤ b ∧ 0 ≤ i ∧ j = i + 1 ∧ j ≤ n ∧ n ≤ 1000000 ∧ cs.length = n * sz then some (.arr b (n - 1), S.put b (.arr s (cs.take (i.toNat * sz) ++ cs.drop (j.toNat * sz)))) else none
    | _ => none
  | _ => none
def insI (x : Int) : List Int → List Int
  | [] => [x]
  | y :: r => if x ≤ y then x :: y :: r else y :: insI x r
def sortI : List Int → List Int
  | [] => []
  | x :: r => insI x (sortI r)
def keysI : List (SV × SV) → Option (List Int)
  | [] => some []
  | (.v (.int .i64 x), _) :: r => if 0 ≤ x ∧ x ≤ 1000000 then (keysI r).map (x :: ·) else none
  | _ => none
def sorted (xs : List SV) (S : St) : Option (SV × St) :=
  match xs with
  | [.func 206 [] [.ptr c 0]] => match S.get c with
    | .cells [.map b] => match S.get b with
      | .map es => if es.length ≤ 1000000 then (keysI es).map fun l => if l.length = 0 then (.v (.slice none 0 0), S) else (.sl (some S.next) l.length ((sortI l).map fun x => .v (.int .i64 x)), S.alloc (.own 1 l.length)) else none
      | _ => none
    | _ => none
  | _ => none
def insD (x : Int) : List Int → List Int
  | [] => [x]
  | y :: r => if y ≤ x then x :: y :: r else y :: insD x r
def sortD : List Int → List Int
  | [] => []
  | x :: r => insD x (sortD r)
def midInts : List SV → Option (List Int)
  | [] => some []
  | .v (.int .i64 x) :: r => if 0 ≤ x ∧ x ≤ 1000000 then (midInts r).map (x :: ·) else none
  | _ => none
def sortP (xs : List SV) (S : St) : Option (SV × St) :=
  match xs with
  | [.v (.slice none 0 0), .func 93 [] []] => some (.tuple [], S)
  | [.arr b n, .func 93 [] []] => match S.get b with
    | .arr 1 cs => if S.floor ≤ b ∧ cs.length = n ∧ n ≤ 1000000 then (midInts cs).map fun l => (.tuple [], S.put b (.arr 1 ((sortD l).map fun x => .v (.int .i64 x)))) else none
    | _ => none
  | _ => none
noncomputable def fnsK (f : FuncId) : Option CF := (Tryz.prog.funcs[f]?).bind fun fn => if okF fn = true then some (compF fn) else none
def grows (f : FuncId) : Bool := f == 57 || f == 69 || f == 70
/-- Without contracts. -/
noncomputable def k0 : K := { P := Tryz.prog, fns := fnsK, mode := fun _ => 2, inBox := fun _ => 0, eqT := fun _ => none, prim := fun _ => none, boxF := fun _ _ => 0, still := false, stillF := fun _ => false, pg := fun _ => false }
/-- For tree.Need: its list is sorted in place. -/
noncomputable def k1 : K := { P := Tryz.prog, fns := fnsK, mode := fun f => if f = 91 then 2 else modes.getD f 2, inBox := fun _ => 0, eqT := eqs, prim := fun f => if f = 92 then some sortP else none, boxF := fun f t => if f = 91 ∧ t = 3 then 1 else 0, still := false, stillF := fun f => !NOTSTILL.contains f, pg := fun _ => false }
def prims (p36 : List SV → St → Option (SV × St)) (f : FuncId) : Option (List SV → St → Option (SV × St)) :=
  if f = 57 then some (clone 6 32) else if f = 69 then some (clone 1 8) else if f = 70 then some (clone 2 16) else if f = 125 then some (delete 12) else if f = 170 then some sorted else if f = 36 then some p36 else none
noncomputable def kkOf (p36 : List SV → St → Option (SV × St)) (p12 : Option (List SV → St → Option (SV × St))) : K := { P := Tryz.prog, fns := fnsK, mode := fun f => modes.getD f 2, inBox := fun _ => 0, eqT := eqs, prim := fun f => if f = 12 then p12 else prims p36 f, boxF := boxes, still := false, stillF := fun f => !NOTSTILL.contains f, pg := grows }
def saneP (xs : List SV) (S : St) : Option (SV × St) := match xs with | [] => some (.v (.bool true), S) | _ => none
/-- For the laws: the examples and tree.Need are met by their contracts. -/
noncomputable def kt : K := kkOf (fun a S => run k1 (.func 36 [] []) a S) (some saneP)
/-- For the chapter's examples. -/
noncomputable def k2 : K := kkOf (fun a S => lvl k1 100 (.func 36 [] []) a S) none
end Go.Sv
end
