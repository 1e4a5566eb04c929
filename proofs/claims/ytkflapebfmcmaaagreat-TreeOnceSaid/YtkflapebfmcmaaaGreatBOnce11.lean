/- Parts of the proofs of this seat's laws. -/
import Derived.Test.YtkflapebfmcmaaaGreatBOnce10
section
set_option linter.all false
/- Levels: more is as much; the call without a level. -/
namespace Go.Sv
open Go

def Le (f g : CallF) : Prop := ∀ x a S r, f x a S = some r → g x a S = some r

section
variable {k : K} {f g : CallF}

theorem bind_mono {α β : Type} {a b : Option α} {F G : α → Option β} {z : β} (h : ∀ r, a = some r → b = some r) (hF : ∀ r z, F r = some z → G r = some z) (k : a.bind F = some z) : b.bind G = some z := by
  simp only [Option.bind_eq_some_iff] at k ⊢
  obtain ⟨r, h1, h2⟩ := k
  exact ⟨r, h r h1, hF r z h2⟩

theorem evOps_mono (h : Le f g) : ∀ (ops : List COp) (fr : Fr) (S : St) (z : Fr × St), evOps k f ops fr S = some z → evOps k g ops fr S = some z
  | [], _, _, _, e => e
  | ⟨d, op, ty, gd⟩ :: r, fr, S, z, e => by
    have ih := evOps_mono h r
    have go : ∀ {X Y : Option (Fr × St)}, X = (match op with
        | .call { callee := .value q, args, .. } => (f (ev fr.ρ q) (args.toList.map (ev fr.ρ)) S).bind fun p => evOps k f r (fr.put d p.1) p.2
        | .defer { callee := .value q, args, .. } =>
          match ev fr.ρ q with
          | .func g1 fst cap => evOps k f r ({ fr with ds := .call g1 (fst ++ args.toList.map (ev fr.ρ) ++ cap) :: fr.ds }.put d (.v undef)) S
          | _ => none
        | _ => (evOpF k ⟨d, op, ty, gd⟩ fr.ρ S).bind fun p => evOps k f r (fr.put d p.1) p.2) → Y = (match op with
        | .call { callee := .value q, args, .. } => (g (ev fr.ρ q) (args.toList.map (ev fr.ρ)) S).bind fun p => evOps k g r (fr.put d p.1) p.2
        | .defer { callee := .value q, args, .. } =>
          match ev fr.ρ q with
          | .func g1 fst cap => evOps k g r ({ fr with ds := .call g1 (fst ++ args.toList.map (ev fr.ρ) ++ cap) :: fr.ds }.put d (.v undef)) S
          | _ => none
        | _ => (evOpF k ⟨d, op, ty, gd⟩ fr.ρ S).bind fun p => evOps k g r (fr.put d p.1) p.2) → X = some z → Y = some z := by
      intro X Y hX hY e
      subst hX; subst hY
      cases op with
      | call c =>
        obtain ⟨cal, args, ats⟩ := c
        cases cal with
        | value q => exact bind_mono (h _ _ _) (fun p z => ih _ _ z) e
        | _ => exact bind_mono (fun _ h => h) (fun p z => ih _ _ z) e
      | defer c =>
        obtain ⟨cal, args, ats⟩ := c
        cases cal with
        | value q =>
          simp only [] at e ⊢
          split at e
          · exact ih _ _ z e
          · cases e
        | _ => exact bind_mono (fun _ h => h) (fun p z => ih _ _ z) e
      | _ => exact bind_mono (fun _ h => h) (fun p z => ih _ _ z) e
    cases gd with
    | none =>
      cases op with
      | call c => obtain ⟨cal, args, ats⟩ := c; cases cal <;> exact go rfl rfl e
      | defer c => obtain ⟨cal, args, ats⟩ := c; cases cal <;> exact go rfl rfl e
      | _ => exact go rfl rfl e
    | some p =>
      obtain ⟨t, w⟩ := p
      simp only [evOps] at e ⊢
      split at e
      · cases e
      · split at e
        · rename_i hb
          rw [if_pos hb]
          cases op with
          | call c => obtain ⟨cal, args, ats⟩ := c; cases cal <;> exact go rfl rfl e
          | defer c => obtain ⟨cal, args, ats⟩ := c; cases cal <;> exact go rfl rfl e
          | _ => exact go rfl rfl e
        · rename_i hb
          rw [if_neg hb]
          exact ih _ _ _ e
      · exact ih _ _ _ e

theorem evOpsD_mono (h : Le f g) {deps : List (List Nat)} {m : Nat} : ∀ (ops : List (Nat × COp)) (W : Watch) (fr : Fr) (S : St) (z : Fr × St), evOpsD k f deps m ops W fr S = some z → evOpsD k g deps m ops W fr S = some z
  | [], _, _, _, _, e => e
  | o :: r, W, fr, S, z, e => by
    have ih := evOpsD_mono h (deps := deps) (m := m) r
    simp only [evOpsD] at e ⊢
    refine bind_mono (fun q hq => ?_) (fun p z hz => by
      split at hz
      · rename_i hc; rw [if_pos hc]; exact ih _ _ _ _ hz
      · cases hz) e
    unfold evD1 at hq ⊢
    split at hq
    · rename_i hc
      rw [if_pos hc]
      exact bind_mono (fun q => evOps_mono h _ _ _ q) (fun _ _ h => h) hq
    · cases hq

theorem evDraw_mono (h : Le f g) {ops : List COp} {deps : List (List Nat)} {fr : Fr} {S : St} {z : Fr × St} (e : evDraw k f ops deps fr S = some z) : evDraw k g ops deps fr S = some z := by
  unfold evDraw at e ⊢
  split at e
  · rename_i hc; rw [if_pos hc]; exact evOpsD_mono h _ _ _ _ _ e
  · cases e

theorem rounds_mono {F G : Fr → St → Option (Ex × Fr × St)} (h : ∀ fr S z, F fr S = some z → G fr S = some z) : ∀ {n m : Nat}, n ≤ m → ∀ {fr : Fr} {S : St} {z : Ex × Fr × St}, rounds F n fr S = some z → rounds G m fr S = some z
  | 0, _, _, _, _, _, e => by cases e
  | n + 1, 0, hle, _, _, _, _ => by omega
  | n + 1, m + 1, hle, fr, S, z, e => by
    simp only [rounds] at e ⊢
    refine bind_mono (h fr S) (fun r z e => ?_) e
    obtain ⟨ex, fr', S'⟩ := r
    cases ex with
    | normal => exact rounds_mono h (by omega) e
    | _ => exact e

theorem evCode_mono (h : Le f g) {n m : Nat} (hn : n ≤ m) {fn : FuncId} {b : Bool} : ∀ (c : CC) (fr : Fr) (S : St) (z : Ex × Fr × St), evCode k f n fn b c fr S = some z → evCode k g m fn b c fr S = some z
  | .skip, _, _, _, e => e
  | .reg ops, fr, S, z, e => by
    simp only [evCode, Option.map_eq_some_iff] at e ⊢
    obtain ⟨r, h1, h2⟩ := e
    exact ⟨r, evOps_mono h _ _ _ _ h1, h2⟩
  | .rdraw ops deps, fr, S, z, e => by
    simp only [evCode, Option.map_eq_some_iff] at e ⊢
    obtain ⟨r, h1, h2⟩ := e
    exact ⟨r, evDraw_mono h h1, h2⟩
  | .seq x y, fr, S, z, e => by
    simp only [evCode] at e ⊢
    refine bind_mono (evCode_mono h hn x fr S) (fun r z e => ?_) e
    obtain ⟨ex, fr', S'⟩ := r
    cases ex with
    | normal => exact evCode_mono h hn y _ _ _ e
    | _ => exact e
  | .cond x p q, fr, S, z, e => by
    simp only [evCode] at e ⊢
    split at e
    · exact evCode_mono h hn p _ _ _ e
    · exact evCode_mono h hn q _ _ _ e
    · cases e
  | .block id p, fr, S, z, e => by
    simp only [evCode, Option.map_eq_some_iff] at e ⊢
    obtain ⟨r, h1, h2⟩ := e
    exact ⟨r, evCode_mono h hn p _ _ _ h1, h2⟩
  | .loop p, fr, S, z, e => by
    simp only [evCode] at e ⊢
    exact rounds_mono (fun fr S z => evCode_mono h hn p fr S z) hn e
  | .exit _, _, _, _, e => e
  | .ret, _, _, _, e => e
  | .rangeFunc q params as bd, fr, S, z, e => by
    simp only [evCode] at e ⊢
    split at e
    · cases e
    · rename_i hc
      rw [if_neg hc]
      exact bind_mono (h _ _ _) (fun _ _ e => e) e
  | .bad, _, _, _, e => e

theorem evDefers_mono (h : Le f g) : ∀ (ds : List Df) (S : St) (z : St), evDefers k f ds S = some z → evDefers k g ds S = some z
  | [], _, _, e => e
  | .coll d :: r, S, z, e => by
    simp only [evDefers] at e ⊢
    split at e
    · split at e
      · rename_i hc; rw [if_pos hc]; exact evDefers_mono h r _ _ e
      · cases e
    · cases e
  | .call q args :: r, S, z, e => by
    simp only [evDefers] at e ⊢
    split at e
    · cases e
    · rename_i hc
      rw [if_neg hc]
      exact bind_mono (h _ _ _) (fun p z => evDefers_mono h r _ z) e

theorem evBody_mono (h : Le f g) {n m : Nat} (hn : n ≤ m) {fn : FuncId} {c : CF} {args : List SV} {S : St} {z : SV × St} (e : evBody k f n fn c args S = some z) : evBody k g m fn c args S = some z := by
  unfold evBody at e ⊢
  split at e
  · rename_i hc
    rw [if_pos hc]
    refine bind_mono (evCode_mono h hn _ _ _) (fun r z e => ?_) e
    obtain ⟨ex, fr', S'⟩ := r
    cases ex with
    | exit _ => cases e
    | _ => exact bind_mono (evDefers_mono h _ _) (fun _ _ e => e) e
  · cases e

theorem evRound_mono (h : Le f g) {n m : Nat} (hn : n ≤ m) {l : Nat} {r : LoopRec} {args : List SV} {S : St} {z : SV × St} (e : evRound k f n l r args S = some z) : evRound k g m l r args S = some z := by
  unfold evRound at e ⊢
  split at e
  · cases e
  · rename_i hc
    rw [if_neg hc]
    refine bind_mono (evCode_mono h hn _ _ _) (fun q z e => ?_) e
    obtain ⟨ex, fr', S'⟩ := q
    cases ex with
    | normal =>
      simp only [] at e ⊢
      split at e
      · split at e
        · cases e
        · rename_i hb
          rw [if_neg hb]
          exact bind_mono (evCode_mono h hn _ _ _) (fun _ _ e => e) e
      · cases e
    | _ => exact e

theorem lvl_mono : ∀ {n m : Nat}, n ≤ m → Le (lvl k n) (lvl k m)
  | 0, _, _ => fun x a S r e => by cases e
  | n + 1, 0, h => by omega
  | n + 1, m + 1, h => fun x a S r e => by
    have ih := lvl_mono (show n ≤ m by omega)
    have hn : n ≤ m := by omega
    cases x with
    | func q fst cap =>
      simp only [lvl] at e ⊢
      split at e
      · exact e
      · refine bind_mono (fun _ h => h) (fun c z e => ?_) e
        split at e
        · rename_i hm
          rw [if_pos hm]
          simp only [Option.map_eq_some_iff] at e ⊢
          obtain ⟨r, h1, h2⟩ := e
          exact ⟨r, evBody_mono ih hn h1, h2⟩
        · rename_i hm
          rw [if_neg hm]
          split at e
          · rename_i hm
            rw [if_pos hm]
            simp only [Option.map_eq_some_iff] at e ⊢
            obtain ⟨r, h1, h2⟩ := e
            exact ⟨r, evBody_mono ih hn h1, h2⟩
          · rename_i hm
            rw [if_neg hm]
            split at e
            · rename_i hm
              rw [if_pos hm]
              simp only [Option.map_eq_some_iff] at e ⊢
              obtain ⟨r, h1, h2⟩ := e
              exact ⟨r, evBody_mono ih hn h1, h2⟩
            · rename_i hm
              rw [if_neg hm]
              exact evBody_mono ih hn e
    | yield l =>
      simp only [lvl] at e ⊢
      split at e
      · exact evRound_mono ih hn e
      · cases e
    | _ => cases e

open Classical in
/-- Calls of any depth. -/
noncomputable def run (k : K) : CallF := fun x a S => if h : ∃ r, ∃ n, lvl k n x a S = some r then some h.choose else none

theorem run_iff {x : SV} {a : List SV} {S : St} {r : SV × St} : run k x a S = some r ↔ ∃ n, lvl k n x a S = some r := by
  unfold run
  constructor
  · intro h
    split at h
    · rename_i hx
      injection h with h
      subst h
      exact hx.choose_spec
    · cases h
  · rintro ⟨n, h⟩
    have hx : ∃ r, ∃ n, lvl k n x a S = some r := ⟨r, n, h⟩
    rw [dif_pos hx]
    obtain ⟨m, hm⟩ := hx.choose_spec
    have h1 := lvl_mono (k := k) (Nat.le_max_left n m) _ _ _ _ h
    have h2 := lvl_mono (k := k) (Nat.le_max_right n m) _ _ _ _ hm
    rw [h1] at h2
    exact h2.symm

theorem two_lvl {α β : Type} {F : Nat → Option α} {G : Nat → α → Option β} (hF : ∀ n m, n ≤ m → ∀ z, F n = some z → F m = some z) (hG : ∀ n m, n ≤ m → ∀ a z, G n a = some z → G m a = some z) {a : α} {z : β} (h1 : ∃ n, F n = some a) (h2 : ∃ n, G n a = some z) : ∃ n, (F n).bind (G n) = some z := by
  obtain ⟨n, h1⟩ := h1
  obtain ⟨m, h2⟩ := h2
  exact ⟨max n m, by rw [hF n _ (Nat.le_max_left n m) _ h1]; exact hG m _ (Nat.le_max_right n m) _ _ h2⟩

variable {k' : K}

theorem evOps_cont : ∀ (ops : List COp) (fr : Fr) (S : St) (z : Fr × St), evOps k' (run k) ops fr S = some z → ∃ n, evOps k' (lvl k n) ops fr S = some z
  | [], _, _, _, e => ⟨0, e⟩
  | ⟨d, op, ty, gd⟩ :: r, fr, S, z, e => by
    have ih := evOps_cont r
    revert e
    have go : ∀ {X : Option (Fr × St)} {Y : Nat → Option (Fr × St)}, X = (match op with
        | .call { callee := .value q, args, .. } => (run k (ev fr.ρ q) (args.toList.map (ev fr.ρ)) S).bind fun p => evOps k' (run k) r (fr.put d p.1) p.2
        | .defer { callee := .value q, args, .. } =>
          match ev fr.ρ q with
          | .func g1 fst cap => evOps k' (run k) r ({ fr with ds := .call g1 (fst ++ args.toList.map (ev fr.ρ) ++ cap) :: fr.ds }.put d (.v undef)) S
          | _ => none
        | _ => (evOpF k' ⟨d, op, ty, gd⟩ fr.ρ S).bind fun p => evOps k' (run k) r (fr.put d p.1) p.2) → (∀ n, Y n = (match op with
        | .call { callee := .value q, args, .. } => (lvl k n (ev fr.ρ q) (args.toList.map (ev fr.ρ)) S).bind fun p => evOps k' (lvl k n) r (fr.put d p.1) p.2
        | .defer { callee := .value q, args, .. } =>
          match ev fr.ρ q with
          | .func g1 fst cap => evOps k' (lvl k n) r ({ fr with ds := .call g1 (fst ++ args.toList.map (ev fr.ρ) ++ cap) :: fr.ds }.put d (.v undef)) S
          | _ => none
        | _ => (evOpF k' ⟨d, op, ty, gd⟩ fr.ρ S).bind fun p => evOps k' (lvl k n) r (fr.put d p.1) p.2)) → X = some z → ∃ n, Y n = some z := by
      intro X Y hX hY e
      subst hX
      simp only [hY]
      have one : ∀ (A : Option (SV × St)), (A.bind fun p => evOps k' (run k) r (fr.put d p.1) p.2) = some z → ∃ n, (A.bind fun p => evOps k' (lvl k n) r (fr.put d p.1) p.2) = some z := by
        intro A e
        simp only [Option.bind_eq_some_iff] at e
        obtain ⟨p, h1, h2⟩ := e
        obtain ⟨n, h3⟩ := ih _ _ _ h2
        exact ⟨n, by rw [h1]; exact h3⟩
      cases op with
      | call c =>
        obtain ⟨cal, args, ats⟩ := c
        cases cal with
        | value q =>
          simp only [Option.bind_eq_some_iff] at e
          obtain ⟨p, h1, h2⟩ := e
          exact two_lvl (G := fun n (p : SV × St) => evOps k' (lvl k n) r (fr.put d p.1) p.2) (fun n m h z => lvl_mono h _ _ _ _) (fun n m h a z => evOps_mono (lvl_mono h) _ _ _ _) (run_iff.1 h1) (ih _ _ _ h2)
        | _ => exact one _ e
      | defer c =>
        obtain ⟨cal, args, ats⟩ := c
        cases cal with
        | value q =>
          simp only [] at e ⊢
          split at e
          · exact ih _ _ z e
          · cases e
        | _ => exact one _ e
      | _ => exact one _ e
    intro e
    cases gd with
    | none =>
      cases op with
      | call c => obtain ⟨cal, args, ats⟩ := c; cases cal <;> exact go rfl (fun _ => rfl) e
      | defer c => obtain ⟨cal, args, ats⟩ := c; cases cal <;> exact go rfl (fun _ => rfl) e
      | _ => exact go rfl (fun _ => rfl) e
    | some p =>
      obtain ⟨t, w⟩ := p
      simp only [evOps] at e ⊢
      split at e
      · cases e
      · split at e
        · rename_i hb
          simp only [if_pos hb]
          cases op with
          | call c => obtain ⟨cal, args, ats⟩ := c; cases cal <;> exact go rfl (fun _ => rfl) e
          | defer c => obtain ⟨cal, args, ats⟩ := c; cases cal <;> exact go rfl (fun _ => rfl) e
          | _ => exact go rfl (fun _ => rfl) e
        · rename_i hb
          simp only [if_neg hb]
          exact ih _ _ _ e
      · exact ih _ _ _ e

theorem evOpsD_cont {deps : List (List Nat)} {m : Nat} : ∀ (ops : List (Nat × COp)) (W : Watch) (fr : Fr) (S : St) (z : Fr × St), evOpsD k' (run k) deps m ops W fr S = some z → ∃ n, evOpsD k' (lvl k n) deps m ops W fr S = some z
  | [], _, _, _, _, e => ⟨0, e⟩
  | o :: r, W, fr, S, z, e => by
    simp only [evOpsD, Option.bind_eq_some_iff] at e
    obtain ⟨p, h1, h2⟩ := e
    simp only [evOpsD]
    have mono1 : ∀ n m', n ≤ m' → ∀ z, evD1 k' (lvl k n) m o.2 fr S = some z → evD1 k' (lvl k m') m o.2 fr S = some z := by
      intro n m' hn z hq
      unfold evD1 at hq ⊢
      split at hq
      · rename_i hc
        rw [if_pos hc]
        exact bind_mono (fun q => evOps_mono (lvl_mono hn) _ _ _ q) (fun _ _ h => h) hq
      · cases hq
    split at h2
    case isFalse => cases h2
    rename_i hask
    refine two_lvl (G := fun n (p : Fr × St) => if asked k' (askW k' deps o.1 o.2 W) S p.2 = true then evOpsD k' (lvl k n) deps m r (addW o.1 o.2 fr.ρ W) p.1 p.2 else none) mono1 (fun n m h a z hz => by
      split at hz
      · rename_i hc; simp only [if_pos hc]; exact evOpsD_mono (lvl_mono h) _ _ _ _ _ hz
      · cases hz) ?_ (by
      obtain ⟨n, hn⟩ := evOpsD_cont r _ _ _ _ h2
      exact ⟨n, by rw [if_pos hask]; exact hn⟩)
    unfold evD1 at h1 ⊢
    split at h1
    · rename_i hc
      simp only [Option.bind_eq_some_iff] at h1
      obtain ⟨q, h3, h4⟩ := h1
      obtain ⟨n, h5⟩ := evOps_cont _ _ _ _ h3
      exact ⟨n, by rw [if_pos hc, h5]; exact h4⟩
    · cases h1

theorem rounds_cont {N : Nat} {fn : FuncId} {b : Bool} {c : CC} (ih : ∀ fr S z, evCode k' (run k) N fn b c fr S = some z → ∃ n, evCode k' (lvl k n) n fn b c fr S = some z) : ∀ (M : Nat) (fr : Fr) (S : St) (z : Ex × Fr × St), rounds (evCode k' (run k) N fn b c) M fr S = some z → ∃ n, rounds (evCode k' (lvl k n) n fn b c) n fr S = some z
  | 0, _, _, _, e => by cases e
  | M + 1, fr, S, z, e => by
    simp only [rounds, Option.bind_eq_some_iff] at e
    obtain ⟨⟨ex, fr', S'⟩, h1, h2⟩ := e
    obtain ⟨n1, h1⟩ := ih _ _ _ h1
    have up : ∀ n, n1 ≤ n → evCode k' (lvl k n) n fn b c fr S = some (ex, fr', S') := fun n hn => evCode_mono (lvl_mono hn) hn _ _ _ _ h1
    cases ex with
    | normal =>
      obtain ⟨n2, h2⟩ := rounds_cont ih M _ _ _ h2
      refine ⟨max n1 n2 + 1, ?_⟩
      rw [rounds, up _ (by omega)]
      exact rounds_mono (fun fr S z => evCode_mono (lvl_mono (by omega)) (by omega) c fr S z) (by omega) h2
    | exit id =>
      refine ⟨n1 + 1, ?_⟩
      rw [rounds, up _ (by omega)]
      exact h2
    | ret =>
      refine ⟨n1 + 1, ?_⟩
      rw [rounds, up _ (by omega)]
      exact h2

theorem evCode_cont {N : Nat} {fn : FuncId} {b : Bool} : ∀ (c : CC) (fr : Fr) (S : St) (z : Ex × Fr × St), evCode k' (run k) N fn b c fr S = some z → ∃ n, evCode k' (lvl k n) n fn b c fr S = some z
  | .skip, _, _, _, e => ⟨0, e⟩
  | .reg ops, fr, S, z, e => by
    simp only [evCode, Option.map_eq_some_iff] at e ⊢
    obtain ⟨r, h1, h2⟩ := e
    obtain ⟨n, h1⟩ := evOps_cont _ _ _ _ h1
    exact ⟨n, r, h1, h2⟩
  | .rdraw ops deps, fr, S, z, e => by
    simp only [evCode, Option.map_eq_some_iff] at e ⊢
    obtain ⟨r, h1, h2⟩ := e
    unfold evDraw at h1 ⊢
    split at h1
    · rename_i hc
      obtain ⟨n, h1⟩ := evOpsD_cont _ _ _ _ _ h1
      exact ⟨n, r, by rw [if_pos hc]; exact h1, h2⟩
    · cases h1
  | .seq x y, fr, S, z, e => by
    simp only [evCode, Option.bind_eq_some_iff] at e
    obtain ⟨⟨ex, fr', S'⟩, h1, h2⟩ := e
    simp only [evCode]
    refine two_lvl (fun n m h z => evCode_mono (lvl_mono h) h _ _ _ _) (fun n m h a z e => ?_) (evCode_cont x _ _ _ h1) ?_
    · obtain ⟨ex, fr', S'⟩ := a
      cases ex with
      | normal => exact evCode_mono (lvl_mono h) h _ _ _ _ e
      | _ => exact e
    · cases ex with
      | normal => exact evCode_cont y _ _ _ h2
      | _ => exact ⟨0, h2⟩
  | .cond x p q, fr, S, z, e => by
    simp only [evCode] at e ⊢
    split at e
    · exact evCode_cont p _ _ _ e
    · exact evCode_cont q _ _ _ e
    · cases e
  | .block id p, fr, S, z, e => by
    simp only [evCode, Option.map_eq_some_iff] at e ⊢
    obtain ⟨r, h1, h2⟩ := e
    obtain ⟨n, h1⟩ := evCode_cont p _ _ _ h1
    exact ⟨n, r, h1, h2⟩
  | .loop p, fr, S, z, e => by
    simp only [evCode] at e ⊢
    exact rounds_cont (fun fr S z => evCode_cont p fr S z) N fr S z e
  | .exit _, _, _, _, e => ⟨0, e⟩
  | .ret, _, _, _, e => ⟨0, e⟩
  | .rangeFunc q params as bd, fr, S, z, e => by
    simp only [evCode] at e ⊢
    split at e
    · cases e
    · rename_i hc
      simp only [if_neg hc]
      simp only [Option.bind_eq_some_iff] at e ⊢
      obtain ⟨r, h1, h2⟩ := e
      obtain ⟨n, h1⟩ := run_iff.1 h1
      exact ⟨n, r, h1, h2⟩
  | .bad, _, _, _, e => ⟨0, e⟩

theorem evDefers_cont : ∀ (ds : List Df) (S : St) (z : St), evDefers k' (run k) ds S = some z → ∃ n, evDefers k' (lvl k n) ds S = some z
  | [], _, _, e => ⟨0, e⟩
  | .coll d :: r, S, z, e => by
    simp only [evDefers] at e ⊢
    split at e
    · split at e
      · rename_i hc; simp only [if_pos hc]; exact evDefers_cont r _ _ e
      · cases e
    · cases e
  | .call q args :: r, S, z, e => by
    simp only [evDefers] at e ⊢
    split at e
    · cases e
    · rename_i hc
      simp only [if_neg hc]
      simp only [Option.bind_eq_some_iff] at e
      obtain ⟨p, h1, h2⟩ := e
      exact two_lvl (G := fun n (p : SV × St) => evDefers k' (lvl k n) r p.2) (fun n m h z => lvl_mono h _ _ _ _) (fun n m h a z => evDefers_mono (lvl_mono h) _ _ _) (run_iff.1 h1) (evDefers_cont r _ _ h2)

theorem evBody_cont {N : Nat} {fn : FuncId} {c : CF} {args : List SV} {S : St} {z : SV × St} (e : evBody k' (run k) N fn c args S = some z) : ∃ n, evBody k' (lvl k n) n fn c args S = some z := by
  unfold evBody at e ⊢
  split at e
  · rename_i hc
    simp only [if_pos hc]
    simp only [Option.bind_eq_some_iff] at e
    obtain ⟨⟨ex, fr', S'⟩, h1, h2⟩ := e
    refine two_lvl (fun n m h z => evCode_mono (lvl_mono h) h _ _ _ _) (fun n m h a z e => ?_) (evCode_cont _ _ _ _ h1) ?_
    · obtain ⟨ex, fr', S'⟩ := a
      cases ex with
      | exit _ => cases e
      | _ => exact bind_mono (evDefers_mono (lvl_mono h) _ _) (fun _ _ e => e) e
    · have fin : ∀ ds S', ((evDefers k' (run k) ds S').bind fun S'' => (resultsE k' c.res fr'.ρ S'').map fun x => (x, S'')) = some z → ∃ n, ((evDefers k' (lvl k n) ds S').bind fun S'' => (resultsE k' c.res fr'.ρ S'').map fun x => (x, S'')) = some z := by
        intro ds S' e
        simp only [Option.bind_eq_some_iff] at e
        obtain ⟨S'', h3, h4⟩ := e
        obtain ⟨n, h3⟩ := evDefers_cont _ _ _ h3
        exact ⟨n, by rw [h3]; exact h4⟩
      cases ex with
      | exit _ => cases h2
      | _ => exact fin _ _ h2
  · cases e

theorem evRound_cont {N : Nat} {l : Nat} {r : LoopRec} {args : List SV} {S : St} {z : SV × St} (e : evRound k' (run k) N l r args S = some z) : ∃ n, evRound k' (lvl k n) n l r args S = some z := by
  unfold evRound at e ⊢
  split at e
  · cases e
  · rename_i hc
    simp only [if_neg hc]
    simp only [Option.bind_eq_some_iff] at e
    obtain ⟨⟨ex, fr', S'⟩, h1, h2⟩ := e
    cases ex with
    | normal =>
      simp only [] at h2
      split at h2
      · rename_i r1 hg
        split at h2
        · cases h2
        · rename_i hb
          simp only [Option.bind_eq_some_iff] at h2
          obtain ⟨q, h3, h4⟩ := h2
          obtain ⟨n1, h1⟩ := evCode_cont _ _ _ _ h1
          obtain ⟨n2, h3⟩ := evCode_cont _ _ _ _ h3
          refine ⟨max n1 n2, ?_⟩
          rw [evCode_mono (lvl_mono (Nat.le_max_left n1 n2)) (Nat.le_max_left n1 n2) _ _ _ _ h1]
          simp only [Option.bind_some, hg, if_neg hb]
          rw [evCode_mono (lvl_mono (Nat.le_max_right n1 n2)) (Nat.le_max_right n1 n2) _ _ _ _ h3]
          exact h4
      · cases h2
    | _ => cases h2

/-- Calls, by what their bodies come to. -/
theorem run_prim {f : FuncId} {fst cap args : List SV} {S : St} {p : List SV → St → Option (SV × St)} {z : SV × St} (hp : k.prim f = some p) (h : p (fst ++ args ++ cap) S = some z) : run k (.func f fst cap) args S = some z :=
  run_iff.2 ⟨1, by simp only [lvl, hp]; exact h⟩

theorem run_closed {f : FuncId} {fst cap args : List SV} {S : St} {c : CF} (N : Nat) {z : SV × St} (hp : k.prim f = none) (hc : k.fns f = some c) (hm : k.mode f = 3) (h : evBody (k.at f) (run k) N f c ((fst ++ args ++ cap).map fun x => weak (shut x)) St0 = some z) : run k (.func f fst cap) args S = some (erase z.2 z.1, S) := by
  obtain ⟨n, h⟩ := evBody_cont h
  refine run_iff.2 ⟨n + 1, ?_⟩
  simp only [lvl, hp, hc, hm, Option.bind_some, show ¬ (3 : Nat) = 0 by decide, if_false, if_true, h, Option.map_some]

theorem run_pure {f : FuncId} {fst cap args : List SV} {S : St} {c : CF} (N : Nat) {z : SV × St} (hp : k.prim f = none) (hc : k.fns f = some c) (hm : k.mode f = 0) (h : evBody (k.at f) (run k) N f c ((fst ++ args ++ cap).map weak) { S with floor := S.next } = some z) : run k (.func f fst cap) args S = some (erase z.2 z.1, S) := by
  obtain ⟨n, h⟩ := evBody_cont h
  refine run_iff.2 ⟨n + 1, ?_⟩
  simp only [lvl, hp, hc, hm, Option.bind_some, if_true, h, Option.map_some]

theorem run_plain {f : FuncId} {fst cap args : List SV} {S : St} {c : CF} (N : Nat) {z : SV × St} (hp : k.prim f = none) (hc : k.fns f = some c) (hm : k.mode f = 2) (h : evBody (k.at f) (run k) N f c (fst ++ args ++ cap) S = some z) : run k (.func f fst cap) args S = some z := by
  obtain ⟨n, h⟩ := evBody_cont h
  refine run_iff.2 ⟨n + 1, ?_⟩
  simp only [lvl, hp, hc, hm, Option.bind_some, show ¬ (2 : Nat) = 0 by decide, show ¬ (2 : Nat) = 3 by decide, show ¬ (2 : Nat) = 1 by decide, if_false, h]

theorem run_round {l : Nat} {r : LoopRec} {args : List SV} {S : St} (N : Nat) {z : SV × St} (hl : S.get l = .loop r) (h : evRound (k.at r.fn) (run k) N l r args S = some z) : run k (.yield l) args S = some z := by
  obtain ⟨n, h⟩ := evRound_cont h
  refine run_iff.2 ⟨n + 1, ?_⟩
  simp only [lvl, hl]
  exact h

/-- From the outside. -/
theorem run_calls (hk : KS k) (hkp : KP k) {f : FuncId} {args : List SV} {x : SV} {S' : St} (hp : k.prim f = none) (h : run k (.func f [] []) args St0 = some (x, S')) (w : World) {us : Array Value} (ha : Rs (gh0 w) w us.toList args) :
    Calls k.P f us w (fun e w' => ∃ v g', e = .returned v ∧ R g' w' v x ∧ Ext (gh0 w) w g' w' ∧ RowKit.Below w.heap.size w w') := by
  obtain ⟨n, h⟩ := run_iff.1 h
  exact lvl_calls hk hkp hp h w ha
end
end Go.Sv
end
