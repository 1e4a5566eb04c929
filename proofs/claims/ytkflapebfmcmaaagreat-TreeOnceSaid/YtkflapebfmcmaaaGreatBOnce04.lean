/- Parts of the proofs of this seat's laws. -/
import Derived.Laws.Slices
import Derived.Test.YtkflapebfmcmaaaGreatBOnce03
section
set_option linter.all false
/- The remaining operations; one operation, whole. -/
namespace Go.Sv
open Go Go.RowKit
section
variable {w0 : World} {g : Gh} {S : St} {w : World} {k : K}

theorem bounds_run {lo hi : Option Value} {n c : Nat} {l h : Int} (hl : (lo = none ∧ l = 0) ∨ ∃ q, lo = some (.int q l)) (hh : (hi = none ∧ h = n) ∨ ∃ q, hi = some (.int q h)) (h0 : 0 ≤ l) (h1 : l ≤ h) (h2 : h ≤ n) (h3 : n ≤ c) :
    (Instr.sliceBounds true n c lo hi none).run k.P w = .ok (l.toNat, h.toNat, c) w := by
  have e1 : 0 ≤ h ∧ h ≤ (c : Int) := by omega
  have e2 : 0 ≤ l ∧ l ≤ (h.toNat : Int) := by omega
  have e3 : 0 ≤ l ∧ l ≤ (n : Int) := by omega
  rcases hl with ⟨rfl, rfl⟩ | ⟨q, rfl⟩ <;> rcases hh with ⟨rfl, rfl⟩ | ⟨q', rfl⟩
  · simp [Instr.sliceBounds]
  · simp [Instr.sliceBounds, run_sliceBound w _ _ _ _ e1.1 e1.2]
  · simp [Instr.sliceBounds, run_sliceBound w _ _ _ _ e3.1 e3.2]
  · simp only [Instr.sliceBounds, Sem.run_bind, Sem.run_pure, Result.andThen_ok, if_true, run_sliceBound w _ _ _ _ e1.1 e1.2, Option.isSome_none, Bool.false_eq_true, if_false, run_sliceBound w _ _ _ _ e2.1 e2.2]

/-- Operands that may lack. -/
def OptR (g : Gh) (w : World) (u : Option Value) (x : Option SV) : Prop := match u, x with | none, none => True | some u, some x => R g w u x | _, _ => False

theorem slice_sound {t : TypeId} {u : Value} {x y : SV} {lo hi : Option SV} {lo' hi' : Option Value} (hx : R g w u x) (hlo : OptR g w lo' lo) (hhi : OptR g w hi' hi)
    (h : sliceE k t x lo hi = some y) : ∃ r, (Instr.sliceAt t u lo' hi' none).run k.P w = .ok r w ∧ R g w r y := by
  simp only [sliceE, Option.bind_eq_some_iff] at h
  obtain ⟨e, he, sz, hsz, h⟩ := h
  have hu := elem_some he
  split at h
  · rename_i id n cs
    simp only [Option.bind_eq_some_iff] at h
    obtain ⟨l, hl, hh, hhh, h⟩ := h
    split at h
    · rename_i hc
      obtain ⟨h0, h1, h2, h3⟩ := hc
      simp only [Option.some.injEq] at h
      subst h
      have hl' : (lo' = none ∧ l = 0) ∨ ∃ q, lo' = some (.int q l) := by
        split at hl
        · injection hl with hl
          cases lo' with
          | none => exact .inl ⟨rfl, hl.symm⟩
          | some v => exact hlo.elim
        · injection hl with hl
          cases lo' with
          | none => exact hlo.elim
          | some v => rw [R_v hlo, hl]; exact .inr ⟨_, rfl⟩
        · cases hl
      have hh' : (hi' = none ∧ hh = n) ∨ ∃ q, hi' = some (.int q hh) := by
        split at hhh
        · injection hhh with hl
          cases hi' with
          | none => exact .inl ⟨rfl, hl.symm⟩
          | some v => exact hhi.elim
        · injection hhh with hl
          cases hi' with
          | none => exact hhi.elim
          | some v => rw [R_v hhi, hl]; exact .inr ⟨_, rfl⟩
        · cases hhh
      have key : (u = .slice none 0 0 ∧ n = 0 ∧ cs = []) ∨ (∃ a c, u = .slice (some a) 0 c ∧ n = 0 ∧ cs = []) ∨ ∃ B o c f, u = .slice (some ⟨B, o, none⟩) n c ∧ n ≤ c ∧ Cont g w B o cs.length f ∧ ∀ i c, cs[i]? = some c → R g w (f i) c := by
        cases hx with
        | sl B o n c cs f h1 h2 h3 => exact .inr (.inr ⟨B, o, c, f, rfl, h3, h1, h2⟩)
        | own b n cs f h0 h1 h2 h3 => exact .inr (.inr ⟨_, 0, _, f, rfl, h3, h1, h2⟩)
        | nil => exact .inl ⟨rfl, rfl, rfl⟩
        | slz a c => exact .inr (.inl ⟨a, c, rfl, rfl, rfl⟩)
      rcases key with ⟨rfl, rfl, rfl⟩ | ⟨a, c, rfl, rfl, rfl⟩ | ⟨B, o, c, f, rfl, hnc, hco, hR⟩
      · have hbr := bounds_run (k := k) (w := w) (n := 0) (c := 0) hl' hh' h0 h1 h2 (Nat.le_refl _)
        have z1 : l.toNat = 0 := by omega
        have z2 : hh.toNat = 0 := by omega
        refine ⟨.slice none 0 0, ?_, ?_⟩
        · simp only [Instr.sliceAt, Instr.slice, Sem.run_bind, run_underlying hu, Result.andThen_ok, hbr, run_size hsz, z1, z2, if_true, Sem.run_pure]
        · simp only [z1, z2, Nat.sub_self, Nat.zero_mul, List.drop_nil, List.take_nil]; exact .nil
      · have hbr := bounds_run (k := k) (w := w) (n := 0) (c := c) hl' hh' h0 h1 h2 (Nat.zero_le _)
        have z1 : l.toNat = 0 := by omega
        have z2 : hh.toNat = 0 := by omega
        refine ⟨.slice (some a) 0 c, ?_, ?_⟩
        · simp only [Instr.sliceAt, Instr.slice, Sem.run_bind, run_underlying hu, Result.andThen_ok, hbr, run_size hsz, z1, z2, if_true, Sem.run_pure]
          split <;> simp [Addr.add]
        · simp only [z1, z2, Nat.sub_self, Nat.zero_mul, List.drop_nil, List.take_nil]; exact .slz _ _
      have hbr := bounds_run (k := k) (w := w) hl' hh' h0 h1 h2 hnc
      have hml : l.toNat * sz ≤ cs.length := by rw [h3]; exact Nat.mul_le_mul_right _ (by omega)
      have hmh : l.toNat * sz + (hh.toNat - l.toNat) * sz ≤ cs.length := by rw [h3, ← Nat.add_mul]; exact Nat.mul_le_mul_right _ (by omega)
      have hlen : ((cs.drop (l.toNat * sz)).take ((hh.toNat - l.toNat) * sz)).length = (hh.toNat - l.toNat) * sz := by simp; omega
      by_cases hcl : c = l.toNat
      · have hz : hh.toNat - l.toNat = 0 := by omega
        refine ⟨.slice (some ⟨B, o, none⟩) (hh.toNat - l.toNat) (c - l.toNat), ?_, ?_⟩
        · simp only [Instr.sliceAt, Instr.slice, Sem.run_bind, run_underlying hu, Result.andThen_ok, hbr, run_size hsz, if_pos hcl, Sem.run_pure]
        · refine .sl B o _ _ _ (fun j => f (l.toNat * sz + j)) ?_ (fun i x hi => ?_) (by omega)
          · intro i hi; rw [hlen, hz] at hi; simp at hi
          · have : i < ((cs.drop (l.toNat * sz)).take ((hh.toNat - l.toNat) * sz)).length := (List.getElem?_eq_some_iff.1 hi).1
            rw [hlen, hz] at this; simp at this
      · refine ⟨.slice (some ⟨B, o + l.toNat * sz, none⟩) (hh.toNat - l.toNat) (c - l.toNat), ?_, ?_⟩
        · simp [Instr.sliceAt, Instr.slice, run_underlying hu, hbr, run_size hsz, hcl, add_none]
        · refine .sl B _ _ _ _ (fun j => f (l.toNat * sz + j)) ?_ (fun i x hi => ?_) (by omega)
          · rw [hlen]; exact hco.cut _ _ hmh
          · rw [List.getElem?_take] at hi
            split at hi
            · exact hR _ x (by rwa [List.getElem?_drop] at hi)
            · cases hi
    · cases h
  · cases h

/-! #### maps -/
theorem intMap_some {t e : TypeId} (h : intMap? k t = some e) : ∃ q, k.P.underlying t = some (.map q e) ∧ k.P.underlying q = some (.int .i64) := by
  unfold intMap? at h
  split at h
  · rename_i q e' hu
    split at h
    · rename_i hq
      injection h with h; subst h
      exact ⟨q, hu, hq⟩
    · cases h
  · cases h

/-- The entries say the list. -/
def EntR (g : Gh) (w : World) (es : List MapEntry) (l : List (SV × SV)) : Prop := es.length = l.length ∧ ∀ (i : Nat) (p : SV × SV), l[i]? = some p → ∃ e : MapEntry, es[i]? = some e ∧ (∃ y, p.1 = .v (.int .i64 y) ∧ e.key = .int .i64 y) ∧ R g w e.val p.2

theorem find_sound (x : Int) : ∀ (es : List MapEntry) (l : List (SV × SV)) (j : Nat), EntR g w es l → 
    (∀ y, findK x l = some y → ∃ i u, Instr.findNow (.int .i64) (.int .i64 x) es j = some (some (j + i, u)) ∧ R g w u y ∧ i < l.length ∧ (∃ p, l[i]? = some p ∧ p.1 = .v (.int .i64 x)) ∧ ∀ z, (setK x z l)[i]? = (l[i]?).map (fun p => (p.1, z)) ∧ ∀ i', i' ≠ i → (setK x z l)[i']? = l[i']?) ∧
    (findK x l = none → Instr.findNow (.int .i64) (.int .i64 x) es j = some none ∧ ∀ z, setK x z l = l ++ [(.v (.int .i64 x), z)])
  | [], [], j, _ => ⟨fun y h => by simp [findK] at h, fun _ => ⟨rfl, fun z => rfl⟩⟩
  | [], _ :: _, j, h => by have := h.1; simp at this
  | _ :: _, [], j, h => by have := h.1; simp at this
  | e :: es, (kx, vx) :: l, j, h => by
    obtain ⟨e', he', ⟨y0, hy0, hk⟩, hR⟩ := h.2 0 (kx, vx) rfl
    simp only [List.getElem?_cons_zero, Option.some.injEq] at he'
    subst he'
    simp only [] at hy0 hR
    subst hy0
    have ih := find_sound x es l (j + 1) ⟨by simpa using h.1, fun i p hp => by simpa using h.2 (i + 1) p (by simpa using hp)⟩
    by_cases hxy : x = y0
    · subst hxy
      refine ⟨fun y hy => ?_, fun hy => by simp [findK] at hy⟩
      simp only [findK, if_true, Option.some.injEq] at hy
      subst hy
      refine ⟨0, e.val, by simp [Instr.findNow, Instr.sameNow, hk], hR, by simp, ⟨_, rfl, rfl⟩, fun z => ⟨by simp [setK], fun i' hi' => ?_⟩⟩
      cases i' with
      | zero => exact (hi' rfl).elim
      | succ i' => simp [setK]
    · have hne : (x == y0) = false := by simpa using hxy
      refine ⟨fun y hy => ?_, fun hy => ?_⟩
      · simp only [findK, hxy, if_false] at hy
        obtain ⟨i, u, h1, h2, h3, h4, h5⟩ := ih.1 y hy
        refine ⟨i + 1, u, ?_, h2, by simpa using h3, by simpa using h4, fun z => ⟨by simpa [setK, hxy] using (h5 z).1, fun i' hi' => ?_⟩⟩
        · have : j + (i + 1) = j + 1 + i := by omega
          simp [Instr.findNow, Instr.sameNow, hk, hne, h1, this]
        · cases i' with
          | zero => simp [setK, hxy]
          | succ i' => simpa [setK, hxy] using (h5 z).2 i' (by omega)
      · simp only [findK, hxy, if_false] at hy
        obtain ⟨h1, h2⟩ := ih.2 hy
        refine ⟨by simp [Instr.findNow, Instr.sameNow, hk, hne, h1], fun z => by simp [setK, hxy, h2 z]⟩

theorem entR_of {a : Array MapEntry} {es : List (SV × SV)} (h2 : a.size = es.length) (h3 : ∀ i (p : SV × SV), es[i]? = some p → (∃ y, p.1 = .v (.int .i64 y) ∧ (a.getD i default).key = .int .i64 y) ∧ R g w (a.getD i default).val p.2) : EntR g w a.toList es := by
  refine ⟨by simpa using h2, fun i p hp => ?_⟩
  have hi : i < es.length := (List.getElem?_eq_some_iff.1 hp).1
  have e : a.getD i default = a.toList[i]'(by simp; omega) := by
    have : i < a.size := by omega
    simp [Array.getD, this]
  refine ⟨a.getD i default, ?_, h3 i p hp⟩
  rw [e, List.getElem?_eq_getElem]

theorem zflat_some {t : TypeId} {z : Value} (h : zflat? k t = some z) : ∃ i, k.P.info? t = some i ∧ i.zero = some z ∧ flatV z = true := by
  unfold zflat? at h
  cases hi : k.P.info? t with
  | none => simp [hi] at h
  | some i => cases hz : i.zero with
    | none => simp [hi, hz] at h
    | some v =>
      simp only [hi, Option.bind_some, hz] at h
      split at h
      · rename_i hf
        injection h with h
        subst h
        exact ⟨i, rfl, hz, hf⟩
      · cases h

theorem R_pair {u v : Value} {x y : SV} (h : R g w u x) (k : R g w v y) : R g w (.tuple #[u, v]) (.tuple [x, y]) := by
  refine .tuple _ _ rfl (fun i c hi => ?_)
  rcases i with _ | _ | i
  · simp at hi; subst hi; simpa using h
  · simp at hi; subst hi; simpa using k
  · simp at hi

theorem key_ok {q : TypeId} (hq : k.P.underlying q = some (.int .i64)) (bb : Bool) (n : Nat) (x : Int) : (Instr.checkKey bb (n + 1) q (.int .i64 x)).run k.P w = .ok () w := by
  simp [Instr.checkKey, run_underlying hq]
theorem bits_ok (n : Nat) (y : Int) : Instr.sameBits n (.int .i64 y) (.int .i64 y) = true := by cases n <;> simp [Instr.sameBits]
theorem push_old {a : Array MapEntry} {x d : MapEntry} {i : Nat} (h : i < a.size) : (a.push x).getD i d = a.getD i d := by
  have h' : i < a.size + 1 := by omega
  simp [Array.getD, h, h', Array.getElem_push_lt]
theorem push_new {a : Array MapEntry} {x d : MapEntry} : (a.push x).getD a.size d = x := by simp [Array.getD]

theorem lookup_sound (hG : G w0 g S w) {t : TypeId} {um uk : Value} {m key y : SV} {ok : Bool} (hm : R g w um m) (hkey : R g w uk key) (h : lookupE k t m key ok S = some y) : ∃ r, (Instr.lookup t um uk ok).run k.P w = .ok r w ∧ R g w r y := by
  simp only [lookupE, Option.bind_eq_some_iff] at h
  obtain ⟨e, he, z, hz, h⟩ := h
  obtain ⟨q, hu, hq⟩ := intMap_some he
  obtain ⟨i, hi, hzv, hzf⟩ := zflat_some hz
  split at h
  · rename_i b x
    cases hm with
    | map b hb =>
    cases hkey
    split at h
    · rename_i es hget
      have hO := hG.obj b hb
      rw [hget] at hO
      obtain ⟨_, a, c, h1, _, h2, h3⟩ := hO
      have hE := entR_of h2 h3
      have hrun : (getObj (g.box b)).run k.P w = .ok (.map a c) w := by simp [getObj, Sem.run, h1]
      have hck : ∀ bb, (Instr.checkKey bb 10000 q (.int .i64 x)).run k.P w = .ok () w := fun bb => key_ok hq bb 9999 _
      have hf := find_sound x a.toList es 0 hE
      split at h
      · rename_i y' hy
        obtain ⟨i', u, hfn, hRu, _⟩ := hf.1 y' hy
        simp only [Option.some.injEq] at h
        cases ok with
        | true =>
          simp only [if_true] at h; subst h
          exact ⟨.tuple #[u, .bool true], by simp [Instr.lookup, run_underlying hu, hrun, hck, Instr.findKey, run_underlying hq, hfn], R_pair hRu (.v _)⟩
        | false =>
          simp only [Bool.false_eq_true, if_false] at h; subst h
          exact ⟨u, by simp [Instr.lookup, run_underlying hu, hrun, hck, Instr.findKey, run_underlying hq, hfn], hRu⟩
      · rename_i hy
        obtain ⟨hfn, _⟩ := hf.2 hy
        have hzr : (zeroValue e).run k.P w = .ok z w := run_zero hi hzv w
        simp only [Option.some.injEq] at h
        cases ok with
        | true =>
          simp only [if_true] at h; subst h
          exact ⟨.tuple #[z, .bool false], by simp [Instr.lookup, run_underlying hu, hrun, hck, Instr.findKey, run_underlying hq, hfn, hzr], R_pair (.v _) (.v _)⟩
        | false =>
          simp only [Bool.false_eq_true, if_false] at h; subst h
          exact ⟨z, by simp [Instr.lookup, run_underlying hu, hrun, hck, Instr.findKey, run_underlying hq, hfn, hzr], .v _⟩
    · cases h
  · cases h

theorem only_putObj (w : World) (B : Nat) (o : Obj) : Only w { w with heap := w.heap.setIfInBounds B o } B := by
  refine ⟨rfl, rfl, rfl, by simp, fun k _ hk => ?_⟩
  simp [Array.getElem?_setIfInBounds, Ne.symm hk]

theorem findK_none {x : Int} : ∀ (es : List (SV × SV)), findK x es = none → ∀ (i : Nat) (p : SV × SV), es[i]? = some p → ∀ q y, p.1 = .v (.int q y) → x ≠ y
  | [], _, i, p, h, _, _, _ => by simp at h
  | (k, e) :: r, h, i, p, hi, q, y, hp => by
    have hr : findK x r = none ∧ ∀ q y, k = .v (.int q y) → x ≠ y := by
      by_cases hk : ∃ q y, k = .v (.int q y)
      · obtain ⟨q, y, rfl⟩ := hk
        simp only [findK] at h
        split at h
        · cases h
        · rename_i hne
          exact ⟨h, fun q' y' e => by injection e with e; injection e with _ e; rw [← e]; exact hne⟩
      · refine ⟨?_, fun q y e => (hk ⟨q, y, e⟩).elim⟩
        rw [findK] at h
        · exact h
        · intro q y e he
          exact hk ⟨q, y, by injection he⟩
    cases i with
    | zero => simp at hi; subst hi; exact hr.2 q y hp
    | succ i => simp at hi; exact findK_none r hr.1 i p hi q y hp

theorem update_sound (hG : G w0 g S w) {t : TypeId} {um uk ux : Value} {m key x : SV} {S' : St} (hm : R g w um m) (hkey : R g w uk key) (hx : R g w ux x) (h : mapUpdateE k t m key x S = some S') : ∃ w', (Instr.mapUpdate t um uk ux).run k.P w = .ok () w' ∧ G w0 g S' w' ∧ Tr S g w S' g w' := by
  simp only [mapUpdateE, Option.bind_eq_some_iff] at h
  obtain ⟨e, he, h⟩ := h
  obtain ⟨q, hu, hq⟩ := intMap_some he
  split at h
  · rename_i b y
    cases hm with
    | map b hb =>
    cases hkey
    split at h
    · rename_i es hget
      split at h
      · rename_i hc
        obtain ⟨hf, hsx⟩ := hc
        simp only [Option.some.injEq] at h
        subst h
        have hO := hG.obj b hb
        rw [hget] at hO
        obtain ⟨h0, a, c, h1, hstm, h2, h3⟩ := hO
        have hE := entR_of h2 h3
        have hlt : g.box b < w.heap.size := (Array.getElem?_eq_some_iff.1 h1).1
        have hrun : (getObj (g.box b)).run k.P w = .ok (.map a c) w := by simp [getObj, Sem.run, h1]
        have hset : ∀ o, (setObj (g.box b) o).run k.P w = .ok () { w with heap := w.heap.setIfInBounds (g.box b) o } := fun o => by simp [setObj, Sem.run, h1]
        have hck : ∀ bb, (Instr.checkKey bb 10000 q (.int .i64 y)).run k.P w = .ok () w := fun bb => key_ok hq bb 9999 _
        have hfs := find_sound y a.toList es 0 hE
        have hext : ∀ o, Ext g w g { w with heap := w.heap.setIfInBounds (g.box b) o } := fun o => by
          refine ⟨rfl, Nat.le_refl _, fun _ _ => rfl, fun _ _ => rfl, fun _ => Nat.le_refl _, fun X i hX => cell_block ((only_putObj w (g.box b) o).block X (hG.use_lt hX) ?_)⟩
          intro e; subst e
          have := hG.lo b hb (by rw [hget]; trivial)
          omega
        have hnew : ∀ o, ({ w with heap := w.heap.setIfInBounds (g.box b) o } : World).heap[g.box b]? = some o := fun o => by simp [Array.getElem?_setIfInBounds, hlt]
        cases hfk : findK y es with
        | none =>
          obtain ⟨hfn, hsk⟩ := hfs.2 hfk
          refine ⟨{ w with heap := w.heap.setIfInBounds (g.box b) (.map (a.push { key := .int .i64 y, val := ux, born := c }) (c + 1)) }, by simp [Instr.mapUpdate, run_underlying hu, hrun, hck, Instr.findKey, run_underlying hq, hfn, hset], hG.put hb (by rw [hget]; trivial) hf (only_putObj w (g.box b) _) h0 (.map (setK y x es)) ?_⟩
          refine ⟨h0, _, _, hnew _, MapKept.stamped_push hstm (fun z hz => ?_), by simp [hsk, h2], fun i p hp => ?_⟩
          · obtain ⟨i, hi, rfl⟩ := List.getElem_of_mem hz
            have hia : i < a.size := by simpa using hi
            obtain ⟨⟨y', hy1, hy2⟩, _⟩ := h3 i es[i] (List.getElem?_eq_getElem (by omega))
            have hne := findK_none es hfk i _ (List.getElem?_eq_getElem (by omega)) _ _ hy1
            have hk : a[i].key = .int .i64 y' := by simpa [Array.getD, hia] using hy2
            simp only [Array.getElem_toList]
            rw [hk]
            intro e
            injection e with _ e
            exact hne e.symm
          rw [hsk] at hp
          by_cases hi : i < es.length
          · rw [List.getElem?_append_left hi] at hp
            obtain ⟨⟨y', hy1, hy2⟩, hR⟩ := h3 i p hp
            have e : (a.push { key := .int .i64 y, val := ux, born := c }).getD i default = a.getD i default := push_old (by omega)
            rw [e]
            exact ⟨⟨y', hy1, hy2⟩, hR.ext (hext _)⟩
          · rw [List.getElem?_append_right (by omega)] at hp
            have hi' : i = es.length := by
              have := (List.getElem?_eq_some_iff.1 hp).1
              simp at this; omega
            subst hi'
            simp only [Nat.sub_self, List.getElem?_cons_zero, Option.some.injEq] at hp
            subst hp
            have e : (a.push { key := .int .i64 y, val := ux, born := c }).getD es.length default = { key := .int .i64 y, val := ux, born := c } := by
              rw [← h2]; exact push_new
            rw [e]
            exact ⟨⟨y, rfl, rfl⟩, hx.ext (hext _)⟩
        | some y0 =>
          obtain ⟨j, u, hfn, hRu, hj, ⟨p, hp, hpk⟩, hst⟩ := hfs.1 y0 hfk
          obtain ⟨hs1, hs2⟩ := hst x
          simp only [Nat.zero_add] at hfn
          obtain ⟨⟨yk, hk1, hk2⟩, hRp⟩ := h3 j p hp
          have hyk : yk = y := by rw [hk1] at hpk; simpa using hpk
          subst hyk
          have hja : j < a.size := by omega
          have hkj : a[j].key = .int .i64 yk := by have := hk2; simpa [Array.getD, hja] using this
          have hsb : (Instr.keyThatStays (.int .i64 yk) (.int .i64 yk)).run k.P w = .ok (.int .i64 yk) w := by
            simp [Instr.keyThatStays, bits_ok]
          refine ⟨{ w with heap := w.heap.setIfInBounds (g.box b) (.map (a.modify j fun e => { key := .int .i64 yk, val := ux, born := e.born }) c) }, by simp [Instr.mapUpdate, run_underlying hu, hrun, hck, Instr.findKey, run_underlying hq, hfn, hja, hkj, hsb, hset], hG.put hb (by rw [hget]; trivial) hf (only_putObj w (g.box b) _) h0 (.map (setK yk x es)) ?_⟩
          have hsl : (setK yk x es).length = es.length := by
            apply Nat.le_antisymm
            · rcases Nat.lt_or_ge es.length (setK yk x es).length with h | h
              · have hne : es.length ≠ j := by omega
                have := hs2 es.length hne
                rw [List.getElem?_eq_getElem h, List.getElem?_eq_none (Nat.le_refl _)] at this
                cases this
              · exact h
            · rcases Nat.lt_or_ge (setK yk x es).length es.length with h | h
              · by_cases hjj : (setK yk x es).length = j
                · have := hs1
                  rw [hp, List.getElem?_eq_none (by omega)] at this
                  cases this
                · have := hs2 _ hjj
                  rw [List.getElem?_eq_none (Nat.le_refl _), List.getElem?_eq_getElem h] at this
                  cases this
              · exact h
          refine ⟨h0, _, _, hnew _, MapKept.stamped_modify hstm j _ (fun _ _ => rfl) (fun e _ he => ?_), by simp [hsl, h2], fun i q hi => ?_⟩
          · rw [Array.getElem?_eq_getElem hja] at he
            injection he with he
            rw [← he, hkj]
          by_cases hij : i = j
          · subst hij
            rw [hs1, hp] at hi
            simp only [Option.map_some, Option.some.injEq] at hi
            subst hi
            have e : (a.modify i fun e => { key := .int .i64 yk, val := ux, born := e.born }).getD i default = { key := .int .i64 yk, val := ux, born := a[i].born } := by
              simp [Array.getD, hja, Array.getElem_modify]
            rw [e]
            exact ⟨⟨yk, hk1, rfl⟩, hx.ext (hext _)⟩
          · rw [hs2 i hij] at hi
            obtain ⟨h5, hR⟩ := h3 i q hi
            have hia : i < a.size := by have := (List.getElem?_eq_some_iff.1 hi).1; omega
            have e : (a.modify j fun e => { key := .int .i64 yk, val := ux, born := e.born }).getD i default = a.getD i default := by
              simp [Array.getD, hia, Array.getElem_modify, Ne.symm hij]
            rw [e]
            exact ⟨h5, hR.ext (hext _)⟩
      · cases h
    · cases h
  · cases h
end
end Go.Sv
end
