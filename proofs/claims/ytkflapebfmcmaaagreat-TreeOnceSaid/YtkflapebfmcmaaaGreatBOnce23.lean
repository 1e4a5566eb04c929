/- Parts of the proofs of this seat's laws. -/
import Derived.SizedLaws
import Derived.Test.YtkflapebfmcmaaaGreatBOnce13
section
set_option linter.all false
/- Arguments that came in and are of a size, read as abstract values. -/
namespace Go.Sv
open Go

/-- The shape of cells of a type; every slice is of a size. -/
def ShW (P : Program) : Nat → TypeId → List SV → Prop
  | 0, _, _ => False
  | n + 1, t, cs =>
    match P.underlying t with
    | some (.int q) => ∃ x, (Lit.int q x).wf = true ∧ cs = [.v (.int q x)]
    | some .bool => ∃ b, cs = [.v (.bool b)]
    | some (.slice e) => ∃ l : List (List SV), cs = [.sl none l.length l.flatten] ∧ l.length ≤ maxLen ∧ l.length * P.bytesOf e ≤ reachBytes ∧ ∀ x ∈ l, ShW P n e x
    | some (.struct fs) => parts (ShW P n) (fs.toList.map (·.type)) cs
    | some (.array k e) => parts (ShW P n) (List.replicate k e) cs
    | _ => False

section
variable {w : World} {P : Program}
theorem weightsAll_mem {H : Type} {P : Program} {e : TypeId} : ∀ {l : List (DataW H)} {d : DataW H}, d ∈ l → ∀ {n : Nat}, n ∈ d.weights P e → n ∈ DataW.weightsAll P e l
  | x :: r, d, hd, n, hn => by
    rw [DataW.weightsAll]
    rcases List.mem_cons.1 hd with rfl | hd
    · exact List.mem_append_left _ hn
    · exact List.mem_append_right _ (weightsAll_mem hd hn)
variable {H : Type} {enc : TypeId × Value → H}

set_option maxHeartbeats 1000000 in
theorem read_genW {ts : List TypeId} (hts : readT P ts = true) : ∀ (fuel : Nat) (t : TypeId) (cs : List Value) (x : DataW H × List MemPlace), ts.contains t = true →
    DataW.trod enc P w 0 (fun _ => true) true fuel t cs = some x → (∀ n ∈ x.1.weights P t, n ≤ reachBytes) → ∃ scs, Rd w cs scs ∧ ShW P fuel t scs
  | 0, t, cs, x, _, h, _ => by simp [DataW.trod] at h
  | fuel + 1, t, cs, x, ht, h, hw => by
    have hT := List.all_eq_true.1 hts t (by simpa using ht)
    unfold DataW.trod at h
    cases hu : P.underlying t with
    | none => rw [hu] at hT; simp at hT
    | some d =>
      rw [hu] at hT h
      have ih := read_genW hts fuel
      cases d with
      | bool =>
        simp only [] at h
        split at h <;> first | (rename_i heq; cases heq) | skip
        all_goals first | (cases h; done) | skip
        refine ⟨[.v (.bool _)], .one (.v _) rfl, ?_⟩
        simp only [ShW, hu]
        exact ⟨_, rfl⟩
      | int q =>
        simp only [] at h
        split at h <;> first | (rename_i heq; cases heq) | skip
        all_goals first | (cases h; done) | skip
        split at h
        · rename_i hc
          obtain ⟨rfl, hwf⟩ := hc
          refine ⟨[.v (.int _ _)], .one (.v _) rfl, ?_⟩
          simp only [ShW, hu]
          exact ⟨_, hwf, rfl⟩
        · cases h
      | slice e =>
        simp only [Bool.and_eq_true, bne_iff_ne, ne_eq] at hT
        simp only [] at h
        split at h <;> first | (rename_i heq; cases heq) | skip
        all_goals first | (cases h; done) | skip
        · refine ⟨[.sl none 0 []], .one .nil rfl, ?_⟩
          simp only [ShW, hu]
          exact ⟨[], rfl, Nat.zero_le _, by simp, fun x hx => by cases hx⟩
        · rename_i a len cap
          split at h
          case isFalse => cases h
          rename_i hc
          simp only [Option.bind_eq_some_iff] at h
          obtain ⟨elems, hel, h⟩ := h
          simp only [Option.map_eq_some_iff] at h
          obtain ⟨rest, _, rfl⟩ := h
          simp only [DataW.weights, hu] at hw
          have hw0 := hw _ (List.mem_cons_self ..)
          have hw1 : ∀ y ∈ elems, ∀ n ∈ y.1.weights P e, n ≤ reachBytes := fun y hy n hn => hw n (List.mem_cons_of_mem _ (List.mem_append_left _ (weightsAll_mem (List.mem_map_of_mem hy) hn)))
          obtain ⟨hl, hel⟩ := mapM_some hel
          have hlen : elems.length = len := by simpa using hl
          by_cases hz : len = 0
          · subst hz
            refine ⟨[.sl none 0 []], .one (.slz _ _) rfl, ?_⟩
            simp only [ShW, hu]
            exact ⟨[], rfl, Nat.zero_le _, by simp, fun x hx => by cases hx⟩
          have hsp : a.spot = none := by
            obtain ⟨y, _, h2⟩ := hel 0 0 (by rw [List.getElem?_range (by omega)])
            simp only [Option.bind_eq_some_iff] at h2
            obtain ⟨vs, h3, h4⟩ := h2
            have := (row_read h3).2 0 (by omega)
            have e0 : (a.add (0 * P.cellsOf e)).add 0 = a := by simp [Addr.add]
            rw [e0] at this
            exact (cell_use this).1
          obtain ⟨B, o, sp⟩ := a
          simp only at hsp
          subst hsp
          have one : ∀ i, i < len → ∃ scs, (∃ vs, vs.length = P.cellsOf e ∧ Rd w vs scs ∧ ∀ j, j < P.cellsOf e → w.cell? ⟨B, o + (i * P.cellsOf e + j), none⟩ = some (vs.getD j undef)) ∧ ShW P fuel e scs := by
            intro i hi
            obtain ⟨y, hy, h2⟩ := hel i i (by simp [hi])
            simp only [Option.bind_eq_some_iff] at h2
            obtain ⟨vs, h3, h4⟩ := h2
            obtain ⟨h5, h6⟩ := row_read h3
            obtain ⟨scs, h7, h8⟩ := ih e vs y hT.1 h4 (hw1 y (List.mem_of_getElem? hy))
            refine ⟨scs, ⟨vs, h5, h7, fun j hj => ?_⟩, h8⟩
            have := h6 j hj
            rw [add_at, add_at, Nat.add_assoc] at this
            exact this
          have all : ∀ m, m ≤ len → ∃ l : List (List SV), l.length = m ∧ (∀ x ∈ l, ShW P fuel e x) ∧ l.flatten.length = m * P.cellsOf e ∧
              ∀ i c, l.flatten[i]? = some c → ∃ v, w.cell? ⟨B, o + i, none⟩ = some v ∧ R (gh0 w) w v c ∧ flatV v = true := by
            intro m
            induction m with
            | zero => exact fun _ => ⟨[], rfl, (fun x hx => by cases hx), (by simp), (fun i c hi => by simp at hi)⟩
            | succ m ihm =>
              intro hm
              obtain ⟨l, h1, h2, h3, h4⟩ := ihm (by omega)
              obtain ⟨scs, ⟨vs, k1, k2, k3⟩, k4⟩ := one m (by omega)
              refine ⟨l ++ [scs], by simp [h1], fun x hx => ?_, ?_, fun i c hi => ?_⟩
              · rcases List.mem_append.1 hx with hx | hx
                · exact h2 x hx
                · simp at hx; subst hx; exact k4
              · rw [List.flatten_append, List.length_append, h3]
                simp [k2.1, k1, Nat.add_mul]
              · simp only [List.flatten_append, List.flatten_cons, List.flatten_nil, List.append_nil] at hi
                by_cases hil : i < l.flatten.length
                · rw [List.getElem?_append_left hil] at hi
                  exact h4 i c hi
                · rw [List.getElem?_append_right (by omega)] at hi
                  have hj := k2.2 _ c hi
                  have hjl : i - l.flatten.length < P.cellsOf e := by
                    have := (List.getElem?_eq_some_iff.1 hi).1
                    rw [k2.1, k1] at this; exact this
                  have hcell := k3 _ hjl
                  refine ⟨_, ?_, hj.1, hj.2⟩
                  rw [← hcell]
                  congr 2
                  rw [← h3]
                  omega
          obtain ⟨l, h1, h2, h3, h4⟩ := all len (Nat.le_refl _)
          refine ⟨[.sl none len l.flatten], .one ?_ rfl, ?_⟩
          · have hex : ∀ i, ∃ v, i < l.flatten.length → w.cell? ⟨B, o + i, none⟩ = some v ∧ (∀ c, l.flatten[i]? = some c → R (gh0 w) w v c) ∧ flatV v = true := by
              intro i
              by_cases hi : i < l.flatten.length
              · obtain ⟨v, h5, h6, h7⟩ := h4 i _ (List.getElem?_eq_getElem hi)
                refine ⟨v, fun _ => ⟨h5, fun c hc => ?_, h7⟩⟩
                rw [List.getElem?_eq_getElem hi] at hc
                injection hc with hc
                rw [← hc]; exact h6
              · exact ⟨undef, fun h => absurd h hi⟩
            refine .sl B o len cap l.flatten (fun i => (hex i).choose) (fun i hi => ?_) (fun i c hi => ?_) hc.2.1
            · obtain ⟨h5, h6, h7⟩ := (hex i).choose_spec hi
              exact ⟨(cell_use h5).2, h5, h7⟩
            · have hil := (List.getElem?_eq_some_iff.1 hi).1
              exact ((hex i).choose_spec hil).2.1 c hi
          · simp only [ShW, hu]
            refine ⟨l, by rw [h1], by rw [h1]; omega, ?_, h2⟩
            rw [h1, ← hlen]
            refine Nat.le_trans (Nat.mul_le_mul_right _ ?_) hw0
            simp
      | struct fs =>
        simp only [Bool.and_eq_true, List.all_eq_true] at hT
        simp only [] at h
        split at h
        case isFalse => cases h
        rename_i hlen
        simp only [Option.map_eq_some_iff] at h
        obtain ⟨xs, hxs, rfl⟩ := h
        simp only [DataW.weights, hu] at hw
        obtain ⟨hl, hel⟩ := mapM_some hxs
        obtain ⟨scs, h1, h2⟩ := parts_fields (w := w) (P := P) (F := ShW P fuel) (cs := cs) fs.toList 0 hT.2 hlen (fun f hf => by
          obtain ⟨i, hi, rfl⟩ := List.getElem_of_mem hf
          obtain ⟨y, hy, h4⟩ := hel i _ (List.getElem?_eq_getElem hi)
          exact ih _ _ _ (hT.1 _ (List.getElem_mem hi)) h4 fun n hn => hw n (DataW.weights_mem_each (j := i) (by rw [List.getElem?_map, List.getElem?_eq_getElem hi]; rfl) (by rw [List.getElem?_map, hy]; rfl) n hn))
        refine ⟨scs, by simpa using h1, ?_⟩
        simp only [ShW, hu]
        exact h2
      | array n e =>
        simp only [Bool.and_eq_true, beq_iff_eq] at hT
        simp only [] at h
        split at h
        case isFalse => cases h
        rename_i hlen
        simp only [Option.map_eq_some_iff] at h
        obtain ⟨xs, hxs, rfl⟩ := h
        simp only [DataW.weights, hu] at hw
        obtain ⟨hl, hel⟩ := mapM_some hxs
        obtain ⟨scs, h1, h2⟩ := parts_rep (w := w) (P := P) (F := ShW P fuel) (cs := cs) (e := e) (n := n) (by rw [hlen, hT.2]) (fun i hi => by
          obtain ⟨y, hy, h4⟩ := hel i i (by simp [hi])
          exact ih _ _ _ hT.1 h4 fun n hn => hw n (weightsAll_mem (List.mem_map_of_mem (List.mem_of_getElem? hy)) hn)) n (Nat.le_refl _)
        refine ⟨scs, by simpa using h1, ?_⟩
        simp only [ShW, hu]
        exact h2
      | _ => simp at hT
end
end Go.Sv
end
