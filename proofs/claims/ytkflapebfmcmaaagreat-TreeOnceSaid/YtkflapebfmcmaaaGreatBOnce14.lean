/- Parts of the proofs of this seat's laws. -/
import Derived.Test.YtkflapebfmcmaaaGreatBOnce11
section
set_option linter.all false
/- The evaluator once more, told on: what a body comes to, written so that the kernel lays it out as a small program. -/
namespace Go.Sv
open Go

/-- How the cells of a type are opened. -/
structure Cdc where
  α : Type
  dec : List SV → Option α
  enc : α → List SV
  ok : ∀ cs a, dec cs = some a → enc a = cs

section
variable {Z : Type}

def splitB (x : SV) (a b : Option Z) : Option Z :=
  match x with
  | .v (.bool true) => a
  | .v (.bool false) => b
  | _ => none

def splitG (x : SV) (a b c : Option Z) : Option Z :=
  match x with
  | .v (.bool true) => a
  | .v (.bool false) => b
  | .top => none
  | _ => c

def notE : SV → Option SV
  | .v (.bool b) => some (.v (.bool (!b)))
  | _ => none

def nilE : SV → Option SV
  | .ptr b off => some (.ptr b off)
  | .cp cs => some (.cp cs)
  | .map b => some (.map b)
  | _ => none

def extE (x : SV) (i : Nat) : Option SV := match x with | .tuple vs => vs[i]? | _ => none

def openCp (c : Cdc) (r : SV) (K : c.α → Option Z) : Option Z := match r with | .cp cs => (c.dec cs).bind K | _ => none
def openPtr (r : SV) (K : Nat → Nat → Option Z) : Option Z := match r with | .ptr b o => K b o | _ => none
def openAgg (c : Cdc) (r : SV) (K : c.α → Option Z) : Option Z := match r with | .agg cs => (c.dec cs).bind K | _ => none
def openInt (r : SV) (K : Int → Option Z) : Option Z := match r with | .v (.int .i64 a) => K a | _ => none
def openBool (r : SV) (K : Bool → Option Z) : Option Z := match r with | .v (.bool a) => K a | _ => none
def openHd (l : List SV) (K : SV → List SV → Option Z) : Option Z := match l with | x :: r => K x r | [] => none

/-- How a value is opened: 0 as it is, 1 a whole number, 2 a boolean. -/
def openAs (n : Nat) (x : SV) (K : SV → Option Z) : Option Z :=
  match n with
  | 0 => K x
  | 1 => openInt x fun a => K (.v (.int .i64 a))
  | _ => openBool x fun b => K (.v (.bool b))

def openL : List (Nat × Nat) → List SV → (List SV → Option Z) → Option Z
  | [], _, K => K []
  | (_, n) :: hs, l, K => openHd l fun x r => openAs n x fun y => openL hs r fun ys => K (y :: ys)

/-- What is told of how to open: elements by type, results of functions (one entry for each: 0 as it is, 1 whole number, 2 boolean, else a struct of that type), temporaries that a loop keeps; those that a region with guards hands on, by the last operation's place. -/
structure H where
  cd : TypeId → Option Cdc
  res : FuncId → List Nat
  live : Nat → List (Nat × Nat)
  keep : Nat → Option (List (Nat × Nat))

variable (k : K) (h : H) (cf : CallF)

def open1 (n : Nat) (x : SV) (K : SV → Option Z) : Option Z :=
  match n with
  | 0 => K x
  | 1 => openInt x fun a => K (.v (.int .i64 a))
  | 2 => openBool x fun b => K (.v (.bool b))
  | t => match h.cd t with
    | some c => openAgg c x fun a => K (.agg (c.enc a))
    | none => K x

def openTup (x : SV) (K : List SV → Option Z) : Option Z := match x with | .tuple vs => K vs | _ => none
def openNil (l : List SV) (K : Option Z) : Option Z := match l with | [] => K | _ => none

def openT : List Nat → List SV → (List SV → Option Z) → Option Z
  | [], l, K => openNil l (K [])
  | n :: ns, l, K => openHd l fun x r => open1 h n x fun y => openT ns r fun ys => K (y :: ys)

def openRes (ns : List Nat) (x : SV) (K : SV → Option Z) : Option Z :=
  match ns with
  | [] => K x
  | [n] => open1 h n x K
  | ns => openTup x fun vs => openT h ns vs fun ys => K (.tuple ys)

def openElem (t : TypeId) (r : SV) (K : SV → Option Z) : Option Z :=
  match k.P.underlying t with
  | some (.slice e) => if k.inBox e = 1 then openPtr r fun b o => K (.ptr b o) else
    match h.cd e with
    | some c => openCp c r fun a => K (.cp (c.enc a))
    | none => K r
  | _ => K r

/-- A value out of a place of a scalar type. -/
def openTy (t : TypeId) (x : SV) (K : SV → Option Z) : Option Z :=
  match k.P.underlying t with
  | some (.int .i64) => openInt x fun a => K (.v (.int .i64 a))
  | some .bool => openBool x fun b => K (.v (.bool b))
  | _ => match h.cd t with
    | some c => openAgg c x fun a => K (.agg (c.enc a))
    | none => K x

def makeSliceE (t : TypeId) (l c : SV) (S : St) : Option (SV × St) :=
  (elem? k t).bind fun e => (zero? k e).bind fun z => (bytes? k e).bind fun by_ => (size? k e).bind fun sz =>
      match l, c with
      | .v (.int .i64 n), .v (.int .i64 m) =>
        if n = m ∧ 0 ≤ n ∧ n.toNat * by_ ≤ room ∧ z.length ≠ 0 ∧ by_ ≠ 0 ∧ sz = z.length then some (.arr S.next n.toNat, S.alloc (.arr z.length (List.replicate n.toNat z).flatten)) else none
      | _, _ => none

/-- The cells of a value that takes so many. -/
def cellsK (sz : Nat) (x : SV) (K : List SV → Option Z) : Option Z :=
  if sz = 1 then (if single x = true then K [x] else none)
  else match x with
    | .agg ys => if ys.length = sz then K ys else none
    | _ => none

def fillK (pl : Nat → Option (Nat × Nat)) : List (Nat × SV) → List SV → (List SV → Option Z) → Option Z
  | [], cs, K => K cs
  | (i, x) :: r, cs, K => (pl i).bind fun p => cellsK p.2 x fun ys => if p.1 + ys.length ≤ cs.length then fillK pl r (splice cs p.1 ys) K else none

/-- A store, its place opened. -/
def storeK (t : TypeId) (a x : SV) (S : St) (K : St → Option Z) : Option Z :=
  (size? k t).bind fun sz =>
  match a with
  | .ptr b off => cellsK sz x fun ys =>
    if S.floor ≤ b then
      match S.get b with
      | .cells cs => if off + ys.length ≤ cs.length then K (S.put b (.cells (splice cs off ys))) else none
      | .arr s cs => if off + ys.length ≤ cs.length then K (S.put b (.arr s (splice cs off ys))) else none
      | _ => none
    else none
  | _ => none

def cOp (o : COp) (ρ : Nat → SV) (S : St) (K : SV → St → Option Z) : Option Z :=
  match o.op with
  | .load t a => (loadE k t (ev ρ a) S).bind fun x => openTy k h t x fun x => K x S
  | .store t a x => storeK k t (ev ρ a) (ev ρ x) S fun S' => K (.v undef) S'
  | .call { callee := .value f, args, .. } => (cf (ev ρ f) (args.toList.map (ev ρ)) S).bind fun p => match f with
    | .func n => openRes h (h.res n) p.1 fun x => K x p.2
    | _ => openTy k h o.ty p.1 fun x => K x p.2
  | .call { callee := .builtin .len, args, argTypes } => match argTypes.toList, args.toList with
    | [t], [x] => (lenE k t (ev ρ x)).bind fun r => openInt r fun n => K (.v (.int .i64 n)) S
    | _, _ => none
  | .call { callee := .builtin .max, args, .. } => match args.toList with
    | [x, y] => (maxE (ev ρ x) (ev ρ y)).bind fun r => openInt r fun n => K (.v (.int .i64 n)) S
    | _ => none
  | .call { callee := .builtin .append, args, argTypes } => match argTypes.toList, args.toList with
    | [t, t2], [s, x] => if (elem? k t2).isSome = true then
        (if frozenT k t = true then ((appendE k t (shut (ev ρ s)) (shut (ev ρ x)) St0).map fun r => erase r.2 r.1).bind fun r => K r S
        else (appendE k t (ev ρ s) (ev ρ x) S).bind fun p => K p.1 p.2) else none
    | _, _ => none
  | .binOp op t x y _ => (binE k op t (ev ρ x) (ev ρ y)).bind fun r => K r S
  | .unOp .not _ x => (notE (ev ρ x)).bind fun r => K r S
  | .nilCheck x => (nilE (ev ρ x)).bind fun r => K r S
  | .fieldAddr t x i => (fieldAddrE k t (ev ρ x) i).bind fun r => K r S
  | .indexAddr t x i => (indexAddrE k t (ev ρ x) (ev ρ i)).bind fun r => openElem k h t r fun r => K r S
  | .lookup t m x ok => (lookupE k t (ev ρ m) (ev ρ x) ok S).bind fun r => K r S
  | .slice t x lo hi none => (sliceE k t (ev ρ x) (lo.map (ev ρ)) (hi.map (ev ρ))).bind fun r => K r S
  | .mapUpdate t m x y | .insert t m x y => (mapUpdateE k t (ev ρ m) (ev ρ x) (ev ρ y) S).bind fun S' => K (.v undef) S'
  | .makeSlice t l c => (makeSliceE k t (ev ρ l) (ev ρ c) S).bind fun p => K p.1 p.2
  | .extract t i => (extE (ev ρ t) i).bind fun r => openTy k h o.ty r fun r => K r S
  | .pick c a b => splitB (ev ρ c) (K (ev ρ a) S) (K (ev ρ b) S)
  | .build t parts => (agg? k t).bind fun ag => if ag then (zero? k t).bind fun z => (places? k t).bind fun pl => fillK pl (parts.toList.map fun p => (p.1, ev ρ p.2)) z fun cs => K (.agg cs) S else none
  | .move x | .assign x => K (ev ρ x) S
  | .defer _ => none
  | _ => (evOpF k o ρ S).bind fun p => K p.1 p.2

def updO (ρ : Nat → SV) (d : Option Nat) (x : SV) : Nat → SV := match d with | some t => upd ρ t x | none => ρ
def dropO (U : List Nat) (d : Option Nat) : List Nat := match d with | some t => U.filter (· != t) | none => U

def known (U : List Nat) (o : COp) : Bool := (reads o).all fun t => !U.contains t

def cOps : List COp → (Nat → SV) → List Nat → St → ((Nat → SV) → List Nat → St → Option Z) → Option Z
  | [], ρ, U, S, K => K ρ U S
  | o :: r, ρ, U, S, K =>
    if known U o = true ∧ isDefer o.op = false then
      match o.g with
      | none => cOp k h cf o ρ S fun x S' => cOps r (updO ρ o.dst x) (dropO U o.dst) S' K
      | some (t, w) =>
        splitG (ρ t)
          (if w = true then cOp k h cf o (upd ρ t (.v (.bool true))) S fun x S' => cOps r (updO (upd ρ t (.v (.bool true))) o.dst x) (dropO U o.dst) S' K
            else cOps r (updO (upd ρ t (.v (.bool true))) o.dst (.v undef)) (dropO U o.dst) S K)
          (if w = true then cOps r (updO (upd ρ t (.v (.bool false))) o.dst (.v undef)) (dropO U o.dst) S K
            else cOp k h cf o (upd ρ t (.v (.bool false))) S fun x S' => cOps r (updO (upd ρ t (.v (.bool false))) o.dst x) (dropO U o.dst) S' K)
          (cOps r (updO ρ o.dst (.v undef)) (dropO U o.dst) S K)
    else none

theorem upd_same {ρ : Nat → SV} {t : Nat} {x : SV} (h : ρ t = x) : upd ρ t x = ρ := by
  funext i
  unfold upd
  split
  · rename_i e; rw [e, h]
  · rfl

variable {k h cf}

theorem open1_sound {n : Nat} {x : SV} {K : SV → Option Z} {z : Z} (e : open1 h n x K = some z) : K x = some z := by
  unfold open1 at e
  split at e
  · exact e
  · unfold openInt at e; split at e; exact e; cases e
  · unfold openBool at e; split at e; exact e; cases e
  · split at e
    · rename_i c _
      unfold openAgg at e
      split at e
      · simp only [Option.bind_eq_some_iff] at e
        obtain ⟨a, h1, h2⟩ := e
        rwa [c.ok _ _ h1] at h2
      · cases e
    · exact e

theorem openT_sound : ∀ {ns : List Nat} {l : List SV} {K : List SV → Option Z} {z : Z}, openT h ns l K = some z → K l = some z
  | [], l, K, z, e => by
    simp only [openT, openNil] at e
    split at e
    · exact e
    · cases e
  | n :: ns, l, K, z, e => by
    simp only [openT, openHd] at e
    split at e
    · have e := open1_sound e
      exact openT_sound (K := fun ys => K (_ :: ys)) e
    · cases e

theorem openRes_sound {ns : List Nat} {x : SV} {K : SV → Option Z} {z : Z} (e : openRes h ns x K = some z) : K x = some z := by
  unfold openRes at e
  split at e
  · exact e
  · exact open1_sound e
  · unfold openTup at e
    split at e
    · exact openT_sound e
    · cases e

theorem openInt_sound {r : SV} {K : SV → Option Z} {z : Z} (e : openInt r (fun a => K (.v (.int .i64 a))) = some z) : K r = some z := by
  unfold openInt at e; split at e; exact e; cases e

theorem openTy_sound {t : TypeId} {x : SV} {K : SV → Option Z} {z : Z} (e : openTy k h t x K = some z) : K x = some z := by
  unfold openTy at e
  split at e
  · exact openInt_sound e
  · unfold openBool at e; split at e; exact e; cases e
  · split at e
    · rename_i c _
      unfold openAgg at e
      split at e
      · simp only [Option.bind_eq_some_iff] at e
        obtain ⟨a, h1, h2⟩ := e
        rwa [c.ok _ _ h1] at h2
      · cases e
    · exact e

theorem openElem_sound {t : TypeId} {r : SV} {K : SV → Option Z} {z : Z} (e : openElem k h t r K = some z) : K r = some z := by
  unfold openElem at e
  split at e
  · split at e
    · unfold openPtr at e; split at e; exact e; cases e
    · split at e
      · rename_i c _
        unfold openCp at e
        split at e
        · simp only [Option.bind_eq_some_iff] at e
          obtain ⟨a, h1, h2⟩ := e
          rwa [c.ok _ _ h1] at h2
        · cases e
      · exact e
  · exact e

theorem openL_sound {Z : Type} : ∀ (hs : List (Nat × Nat)) (l : List SV) (K : List SV → Option Z) (z : Z), openL hs l K = some z → l.length = hs.length → K l = some z
  | [], l, K, z, e, hl => by
    have : l = [] := List.eq_nil_of_length_eq_zero hl
    subst this; exact e
  | (_, n) :: hs, [], K, z, e, hl => by simp at hl
  | (_, n) :: hs, x :: r, K, z, e, hl => by
    simp only [openL, openHd] at e
    have step : ∀ (F : SV → Option Z), openAs n x F = some z → F x = some z := by
      intro F e
      unfold openAs at e
      split at e
      · exact e
      · unfold openInt at e; split at e; exact e; cases e
      · unfold openBool at e; split at e; exact e; cases e
    have e := step _ e
    exact openL_sound hs r _ z e (by simpa using hl)

theorem splitB_sound {x : SV} {a b : Option Z} {z : Z} (e : splitB x a b = some z) : (x = .v (.bool true) ∧ a = some z) ∨ (x = .v (.bool false) ∧ b = some z) := by
  unfold splitB at e
  split at e
  · exact .inl ⟨rfl, e⟩
  · exact .inr ⟨rfl, e⟩
  · cases e

theorem cellsK_sound {sz : Nat} {x : SV} {K : List SV → Option Z} {z : Z} (e : cellsK sz x K = some z) : ∃ ys, cellsOf x = some ys ∧ ys.length = sz ∧ K ys = some z := by
  unfold cellsK at e
  split at e
  · rename_i hs
    split at e
    · rename_i h1
      refine ⟨[x], ?_, by simp [hs], e⟩
      cases x <;> simp_all [cellsOf, single]
    · cases e
  · split at e
    · split at e
      · rename_i hl; exact ⟨_, rfl, hl, e⟩
      · cases e
    · cases e

theorem fillK_sound {pl : Nat → Option (Nat × Nat)} : ∀ {parts : List (Nat × SV)} {cs : List SV} {K : List SV → Option Z} {z : Z}, fillK pl parts cs K = some z → ∃ cs', fillC pl parts cs = some cs' ∧ K cs' = some z
  | [], cs, K, z, e => ⟨cs, rfl, e⟩
  | (i, x) :: r, cs, K, z, e => by
    simp only [fillK, Option.bind_eq_some_iff] at e
    obtain ⟨p, hp, e⟩ := e
    obtain ⟨ys, h1, h2, e⟩ := cellsK_sound e
    split at e
    · rename_i hle
      obtain ⟨cs', h3, h4⟩ := fillK_sound e
      exact ⟨cs', by simp only [fillC, hp, Option.bind_some, h1, h2, true_and]; rw [if_pos (by rw [← h2]; exact hle)]; exact h3, h4⟩
    · cases e

theorem storeK_sound {t : TypeId} {a x : SV} {S : St} {K : St → Option Z} {z : Z} (e : storeK k t a x S K = some z) : ∃ S', storeE k t a x S = some S' ∧ K S' = some z := by
  simp only [storeK, Option.bind_eq_some_iff] at e
  obtain ⟨sz, hsz, e⟩ := e
  split at e
  · rename_i b off
    obtain ⟨ys, h1, h2, e⟩ := cellsK_sound e
    split at e
    · rename_i hf
      split at e
      · rename_i cs hg
        split at e
        · rename_i hl; exact ⟨_, by simp [storeE, hsz, h1, hf, h2, hg]; rw [← h2]; exact hl, e⟩
        · cases e
      · rename_i s cs hg
        split at e
        · rename_i hl; exact ⟨_, by simp [storeE, hsz, h1, hf, h2, hg]; rw [← h2]; exact hl, e⟩
        · cases e
      · cases e
    · cases e
  · cases e

theorem cOp_sound {o : COp} {ρ : Nat → SV} {S : St} {K : SV → St → Option Z} {z : Z} (e : cOp k h cf o ρ S K = some z) : isDefer o.op = false ∧ ∃ x S', gop k cf o ρ S = some (x, S') ∧ K x S' = some z := by
  obtain ⟨d, op, ty, g⟩ := o
  have simple : ∀ {q : Option SV}, (q.bind fun r => K r S) = some z → ∃ x S', (q.map fun r => (r, S)) = some (x, S') ∧ K x S' = some z := by
    intro q e
    simp only [Option.bind_eq_some_iff] at e
    obtain ⟨r, h1, h2⟩ := e
    exact ⟨r, S, by rw [h1]; rfl, h2⟩
  have other : ((evOpF k ⟨d, op, ty, g⟩ ρ S).bind fun p => K p.1 p.2) = some z → ∃ x S', evOpF k ⟨d, op, ty, g⟩ ρ S = some (x, S') ∧ K x S' = some z := by
    intro e
    simp only [Option.bind_eq_some_iff] at e
    obtain ⟨p, h1, h2⟩ := e
    exact ⟨p.1, p.2, h1, h2⟩
  have nf : frozen k ⟨d, op, ty, g⟩ = false → evOpF k ⟨d, op, ty, g⟩ ρ S = evOp k ⟨d, op, ty, g⟩ ρ S := fun h => evOpF_not (by simp [h])
  cases op with
  | load t a =>
    refine ⟨rfl, ?_⟩
    simp only [cOp, Option.bind_eq_some_iff] at e
    obtain ⟨r, h1, h2⟩ := e
    exact ⟨r, S, by simp [gop, nf rfl, evOp, h1], openTy_sound h2⟩
  | store t a x =>
    refine ⟨rfl, ?_⟩
    simp only [cOp] at e
    obtain ⟨S', h1, h2⟩ := storeK_sound e
    exact ⟨_, S', by simp [gop, nf rfl, evOp, h1], h2⟩
  | call c =>
    obtain ⟨cal, args, ats⟩ := c
    refine ⟨rfl, ?_⟩
    cases cal with
    | value f =>
      simp only [cOp, Option.bind_eq_some_iff] at e
      obtain ⟨p, h1, h2⟩ := e
      refine ⟨p.1, p.2, h1, ?_⟩
      split at h2
      · exact openRes_sound h2
      · exact openTy_sound h2
    | invoke _ _ => exact other e
    | builtin b =>
      cases b with
      | len =>
        simp only [cOp] at e
        split at e
        · rename_i t x h1 h2
          simp only [Option.bind_eq_some_iff] at e
          obtain ⟨y, h3, h4⟩ := e
          refine ⟨y, S, ?_, openInt_sound (K := fun y => K y S) h4⟩
          simp only [gop, nf rfl, evOp, h1, h2, List.map_cons, List.map_nil, builtinE, h3, Option.map_some]
        · cases e
      | max =>
        simp only [cOp] at e
        split at e
        · rename_i x y h2
          simp only [Option.bind_eq_some_iff] at e
          obtain ⟨r, h3, h4⟩ := e
          refine ⟨r, S, ?_, openInt_sound (K := fun y => K y S) h4⟩
          simp only [gop, nf rfl, evOp, h2, List.map_cons, List.map_nil, builtinE, h3, Option.map_some]
        · cases e
      | append =>
        simp only [cOp] at e
        split at e
        · rename_i t t2 s x h1 h2
          split at e
          · rename_i he2
            split at e
            · rename_i hfr
              simp only [Option.bind_eq_some_iff, Option.map_eq_some_iff] at e
              obtain ⟨r, ⟨q, h3, rfl⟩, h4⟩ := e
              refine ⟨_, S, ?_, h4⟩
              have hf : frozen k ⟨d, .call ⟨.builtin .append, args, ats⟩, ty, g⟩ = true := by simp [frozen, h1, hfr]
              have hev : ∀ x, ev (fun t => shut (ρ t)) x = shut (ev ρ x) := by intro x; cases x <;> rfl
              simp only [gop, evOpF, hf, if_true, evOp, h1, h2, List.map_cons, List.map_nil, builtinE, he2, hev, h3, Option.map_some]
            · rename_i hfr
              simp only [Option.bind_eq_some_iff] at e
              obtain ⟨p, h3, h4⟩ := e
              refine ⟨p.1, p.2, ?_, h4⟩
              have hf : frozen k ⟨d, .call ⟨.builtin .append, args, ats⟩, ty, g⟩ = false := by simp [frozen, h1]; simpa using hfr
              simp only [gop, nf hf, evOp, h1, h2, List.map_cons, List.map_nil, builtinE, he2, if_true, h3]
          · cases e
        · cases e
      | _ => exact other e
  | binOp op t x y a => exact ⟨rfl, by have := simple e; simpa [gop, nf rfl, evOp] using this⟩
  | unOp op t x =>
    refine ⟨rfl, ?_⟩
    cases op with
    | not =>
      simp only [cOp, Option.bind_eq_some_iff] at e
      obtain ⟨r, h1, h2⟩ := e
      refine ⟨r, S, ?_, h2⟩
      unfold notE at h1
      split at h1
      · rename_i b hb
        simp only [Option.some.injEq] at h1
        subst h1
        simp [gop, nf rfl, evOp, hb]
      · cases h1
    | _ => exact other e
  | nilCheck x =>
    refine ⟨rfl, ?_⟩
    simp only [cOp, Option.bind_eq_some_iff] at e
    obtain ⟨r, h1, h2⟩ := e
    refine ⟨r, S, ?_, h2⟩
    unfold nilE at h1
    split at h1 <;> first | (rename_i hb; simp only [Option.some.injEq] at h1; subst h1; simp [gop, nf rfl, evOp, hb]) | cases h1
  | fieldAddr t x i => exact ⟨rfl, by have := simple e; simpa [gop, nf rfl, evOp] using this⟩
  | indexAddr t x i =>
    refine ⟨rfl, ?_⟩
    simp only [cOp, Option.bind_eq_some_iff] at e
    obtain ⟨r, h1, h2⟩ := e
    exact ⟨r, S, by simp [gop, nf rfl, evOp, h1], openElem_sound h2⟩
  | lookup t m x ok => exact ⟨rfl, by have := simple e; simpa [gop, nf rfl, evOp] using this⟩
  | slice t x lo hi mx =>
    refine ⟨rfl, ?_⟩
    cases mx with
    | none => have := simple e; simpa [gop, nf rfl, evOp] using this
    | some _ => exact other e
  | build t parts =>
    refine ⟨rfl, ?_⟩
    simp only [cOp, Option.bind_eq_some_iff] at e
    obtain ⟨ag, h1, e⟩ := e
    split at e
    · rename_i hag
      simp only [Option.bind_eq_some_iff] at e
      obtain ⟨z0, h2, pl, h3, e⟩ := e
      obtain ⟨cs, h4, h5⟩ := fillK_sound e
      refine ⟨.agg cs, S, ?_, h5⟩
      simp only [gop, nf rfl, evOp, h1, Option.bind_some, hag, if_true, h2, h3, h4, Option.map_some]
    · cases e
  | mapUpdate t m x y =>
    refine ⟨rfl, ?_⟩
    simp only [cOp, Option.bind_eq_some_iff] at e
    obtain ⟨S', h1, h2⟩ := e
    exact ⟨_, S', by simp [gop, nf rfl, evOp, h1], h2⟩
  | insert t m x y =>
    refine ⟨rfl, ?_⟩
    simp only [cOp, Option.bind_eq_some_iff] at e
    obtain ⟨S', h1, h2⟩ := e
    exact ⟨_, S', by simp [gop, nf rfl, evOp, h1], h2⟩
  | makeSlice t l c =>
    refine ⟨rfl, ?_⟩
    simp only [cOp, Option.bind_eq_some_iff] at e
    obtain ⟨p, h1, h2⟩ := e
    refine ⟨p.1, p.2, ?_, h2⟩
    simp only [gop, nf rfl]
    exact h1
  | extract x i =>
    refine ⟨rfl, ?_⟩
    simp only [cOp, Option.bind_eq_some_iff] at e
    obtain ⟨r, h1, h2⟩ := e
    refine ⟨r, S, ?_, openTy_sound h2⟩
    unfold extE at h1
    split at h1
    · rename_i vs hb
      simp [gop, nf rfl, evOp, hb, h1]
    · cases h1
  | pick c a b =>
    refine ⟨rfl, ?_⟩
    rcases splitB_sound e with ⟨h1, h2⟩ | ⟨h1, h2⟩
    · exact ⟨_, S, by simp [gop, nf rfl, evOp, h1], h2⟩
    · exact ⟨_, S, by simp [gop, nf rfl, evOp, h1], h2⟩
  | move x => exact ⟨rfl, _, S, by simp [gop, nf rfl, evOp], e⟩
  | assign x => exact ⟨rfl, _, S, by simp [gop, nf rfl, evOp], e⟩
  | defer c => cases e
  | _ => exact ⟨rfl, by have := other e; simpa [gop] using this⟩

def Agree (U : List Nat) (ρ2 ρ : Nat → SV) : Prop := ∀ t, t ∉ U → ρ2 t = ρ t

theorem Agree.put {U : List Nat} {ρ2 ρ : Nat → SV} (h : Agree U ρ2 ρ) (d : Option Nat) (x : SV) (ds : List Df) : Agree (dropO U d) (Fr.put ⟨ρ2, ds⟩ d x).ρ (updO ρ d x) := by
  intro t ht
  cases d with
  | none => exact h t ht
  | some d =>
    simp only [Fr.put, updO, upd]
    split
    · rfl
    · rename_i hne
      refine h t fun hU => ht ?_
      simp [dropO, hU, hne]

theorem cOps_sound : ∀ (ops : List COp) (ρ : Nat → SV) (U : List Nat) (S : St) (K : (Nat → SV) → List Nat → St → Option Z) (z : Z), cOps k h cf ops ρ U S K = some z → ∀ ρ2 ds, Agree U ρ2 ρ →
    ∃ ρ2' S' ρ' U', evOps k cf ops ⟨ρ2, ds⟩ S = some (⟨ρ2', ds⟩, S') ∧ Agree U' ρ2' ρ' ∧ (∀ t, (∀ o ∈ ops, o.dst ≠ some t) → ρ2' t = ρ2 t) ∧ K ρ' U' S' = some z
  | [], ρ, U, S, K, z, e, ρ2, ds, ha => ⟨ρ2, S, ρ, U, rfl, ha, fun _ _ => rfl, e⟩
  | o :: r, ρ, U, S, K, z, e, ρ2, ds, ha => by
    simp only [cOps] at e
    split at e
    · rename_i hk
      obtain ⟨hk, hd⟩ := hk
      have hr : ∀ t ∈ reads o, ρ2 t = ρ t := by
        intro t ht
        have := List.all_eq_true.1 hk t ht
        refine ha t ?_
        simpa using this
      have fin : ∀ (x : SV) (S1 : St), gval k cf o ρ S = some (x, S1) → isDefer o.op = false → cOps k h cf r (updO ρ o.dst x) (dropO U o.dst) S1 K = some z →
          ∃ ρ2' S' ρ' U', evOps k cf (o :: r) ⟨ρ2, ds⟩ S = some (⟨ρ2', ds⟩, S') ∧ Agree U' ρ2' ρ' ∧ (∀ t, (∀ p ∈ o :: r, p.dst ≠ some t) → ρ2' t = ρ2 t) ∧ K ρ' U' S' = some z := by
        intro x S1 hg hd e
        obtain ⟨ρ2', S', ρ', U', h1, h2, h3, h4⟩ := cOps_sound r _ _ S1 K z e (Fr.put ⟨ρ2, ds⟩ o.dst x).ρ ds (ha.put o.dst x ds)
        refine ⟨ρ2', S', ρ', U', ?_, h2, fun t ht => ?_, h4⟩
        · rw [evOps_step hd, show (⟨ρ2, ds⟩ : Fr).ρ = ρ2 from rfl, gval_congr hr, hg]
          simp only [Option.bind_some]
          rw [← h1]
          congr 1
          cases o.dst <;> rfl
        · rw [h3 t fun p hp => ht p (by simp [hp]), put_ρ, if_neg (ht o (by simp))]
      cases hg : o.g with
      | none =>
        simp only [hg] at e
        obtain ⟨hd, x, S1, h1, h2⟩ := cOp_sound e
        exact fin x S1 (by simp [gval, hg, h1]) hd h2
      | some p =>
        obtain ⟨t, w⟩ := p
        simp only [hg] at e
        unfold splitG at e
        split at e
        · rename_i hx
          simp only [upd_same hx] at e
          split at e
          · rename_i hw
            obtain ⟨_, x, S1, h1, h2⟩ := cOp_sound e
            exact fin x S1 (by simp [gval, hg, hx, hw, h1]) hd h2
          · rename_i hw
            exact fin _ S (by simp [gval, hg, hx, hw]) hd e
        · rename_i hx
          simp only [upd_same hx] at e
          split at e
          · rename_i hw
            exact fin _ S (by simp [gval, hg, hx, hw]) hd e
          · rename_i hw
            obtain ⟨_, x, S1, h1, h2⟩ := cOp_sound e
            exact fin x S1 (by simp [gval, hg, hx, hw, h1]) hd h2
        · cases e
        · rename_i n1 n2 n3
          refine fin (.v undef) S ?_ hd e
          unfold gval
          simp only [hg]
          split
          · rename_i hx; exact (n3 hx).elim
          · rename_i b hx
            cases b with
            | true => exact (n1 hx).elim
            | false => exact (n2 hx).elim
          · rfl
    · cases e
end
end Go.Sv
end
