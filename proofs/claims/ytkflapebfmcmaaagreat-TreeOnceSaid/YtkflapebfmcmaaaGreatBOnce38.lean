/- Parts of the proofs of this seat's laws. -/
import Derived.Test.YtkflapebfmcmaaaGreatBOnce37
section
namespace Go.Sv
open Go Go.Proofs Go.Proofs.YtkflapebfmcmaaaGreat
set_option linter.all false
set_option maxRecDepth 100000

theorem index_id {k : K} {t : TypeId} (id : Option Nat) (n : Nat) (cs : List SV) (i : SV) : indexAddrE k t (.sl id n cs) i = indexAddrE k t (.sl none n cs) i := by
  unfold indexAddrE; rfl
theorem len_id {k : K} {t : TypeId} (id : Option Nat) (n : Nat) (cs : List SV) : lenE k t (.sl id n cs) = lenE k t (.sl none n cs) := by
  unfold lenE; rfl

/-- A list of one's own, made by append to an empty one. -/
def Own {α : Type} (f : α → List SV) (sz : Nat) (l : List α) (y : SV) (S : St) : Prop :=
  S.floor ≤ S.next ∧ ((l = [] ∧ y = .emp) ∨ ∃ b, y = .sl (some b) l.length (l.flatMap f) ∧ S.get b = .own sz (l.length * sz) ∧ b < S.next ∧ S.floor ≤ b)
theorem own0 {α : Type} (f : α → List SV) (sz : Nat) {S : St} (h : S.floor ≤ S.next) : Own f sz ([] : List α) .emp S := ⟨h, .inl ⟨rfl, rfl⟩⟩

theorem own_append {α : Type} {f : α → List SV} {sz by_ : Nat} (hf : ∀ x, (f x).length = sz) {k : K} {t e : TypeId} {z : List SV} (he : elem? k t = some e) (hs : size? k e = some sz) (hb : bytes? k e = some by_) (hz : zero? k e = some z) (h0 : sz ≠ 0) (h1 : by_ ≠ 0) (h2 : z.length = sz) (hbx : k.inBox e ≠ 1)
    {l : List α} {y : SV} {S : St} (h : Own f sz l y S) (m : List α) (hr : (l.length + m.length) * by_ ≤ room) :
    ∃ y' S', appendE k t y (sl f m) S = some (y', S') ∧ Own f sz (l ++ m) y' S' ∧ S'.floor = S.floor ∧ S.next ≤ S'.next := by
  obtain ⟨hfl, h⟩ := h
  have hml : (m.flatMap f).length = m.length * sz := flatMap_len f sz hf m
  have src : srcCells (sl f m) S sz = some (m.length, m.flatMap f) := by simp [srcCells, sl, hml]
  have hbad : ¬ (sz = 0 ∨ by_ = 0 ∨ z.length ≠ sz) := by simp [h0, h1, h2]
  by_cases hm : m = []
  · subst hm
    rcases h with ⟨rfl, rfl⟩ | ⟨b, rfl, hg, hbn, hbf⟩
    · refine ⟨.emp, S, ?_, ⟨hfl, .inl ⟨rfl, rfl⟩⟩, rfl, Nat.le_refl _⟩
      simp only [appendE, he, hs, hb, hz, src, Option.bind_some, if_neg hbad, List.length_nil, if_true]
    · refine ⟨.sl (some b) l.length (l.flatMap f), S, ?_, ⟨hfl, .inr ⟨b, ?_, ?_, hbn, hbf⟩⟩, rfl, Nat.le_refl _⟩
      · simp only [appendE, he, hs, hb, hz, src, Option.bind_some, if_neg hbad, List.length_nil, if_true]
      · simp
      · simpa using hg
  · have hm0 : m.length ≠ 0 := by simpa using hm
    rcases h with ⟨rfl, rfl⟩ | ⟨b, rfl, hg, hbn, hbf⟩
    · refine ⟨.sl (some S.next) m.length (m.flatMap f), S.alloc (.own sz (m.flatMap f).length), ?_, ⟨?_, .inr ⟨S.next, by simp, ?_, ?_, ?_⟩⟩, rfl, ?_⟩
      · simp only [appendE, he, hs, hb, hz, src, Option.bind_some, if_neg hbad, if_neg hm0, if_neg hbx]
        rw [if_pos (by simpa using hr)]
      · simp [St.alloc]; omega
      · simp [St.alloc, hml]
      · simp [St.alloc]
      · simp [St.alloc]; omega
      · simp [St.alloc]
    · have hcl : (l.flatMap f).length = l.length * sz := flatMap_len f sz hf l
      refine ⟨.sl (some S.next) (l.length + m.length) (l.flatMap f ++ m.flatMap f), (S.put b .dead).alloc (.own sz ((l.flatMap f).length + (m.flatMap f).length)), ?_, ⟨?_, .inr ⟨S.next, by simp, ?_, ?_, ?_⟩⟩, rfl, ?_⟩
      · simp only [appendE, he, hs, hb, hz, src, Option.bind_some, if_neg hbad, if_neg hm0, hg]
        rw [if_pos ⟨hbf, trivial, hcl, hcl, hr, hbx⟩]
      · simp [St.alloc, St.put]; omega
      · simp [St.alloc, St.put, hcl, hml, Nat.add_mul]
      · simp [St.alloc, St.put]
      · simp [St.alloc, St.put]; omega
      · simp [St.alloc, St.put]

theorem own_len {k : K} {t e : TypeId} {α : Type} {f : α → List SV} {sz : Nat} (hP : k.P = Tryz.prog) (ht : Tryz.prog.underlying t = some (.slice e)) {l : List α} {y : SV} {S : St} (h : Own f sz l y S) : lenE k t y = some (.v (.int .i64 (l.length : Int))) := by
  rcases h.2 with ⟨rfl, rfl⟩ | ⟨b, rfl, _⟩
  · simp [lenE, elem_of hP ht]
  · rw [len_id]; exact len_sl hP ht f l
theorem own_index {k : K} {t e sz : Nat} (hP : k.P = Tryz.prog) (ht : Tryz.prog.underlying t = some (.slice e)) (hs : (Tryz.prog.info? e).map (·.size) = some sz) {α : Type} {f : α → List SV} (hf : ∀ x, (f x).length = sz) {l : List α} {y : SV} {S : St} (h : Own f sz l y S) (i : Nat) (hi : i < l.length) (q : IntKind) :
    indexAddrE k t y (.v (.int q (i : Int))) = some (.cp (f l[i])) := by
  rcases h.2 with ⟨rfl, rfl⟩ | ⟨b, rfl, _⟩
  · simp at hi
  · rw [index_id]; exact index_sl hP ht hs f hf l i hi q

theorem insertM_len (l : List Int) (n : Int) : (insertM l n).length ≤ l.length + 1 := by
  have : ∀ (l : List Int) (b : List Int × Bool), (l.foldl (insStep n) b).1.length + (if (l.foldl (insStep n) b).2 = true then 0 else 1) ≤ b.1.length + l.length + (if b.2 = true then 0 else 1) := by
    intro l
    induction l with
    | nil => intro b; exact Nat.le_refl _
    | cons x r ih =>
      intro b
      have h1 := ih (insStep n b x)
      have h2 : (insStep n b x).1.length + (if (insStep n b x).2 = true then 0 else 1) ≤ b.1.length + 1 + (if b.2 = true then 0 else 1) := by
        unfold insStep
        cases hb : b.2 with
        | true => simp
        | false =>
          by_cases hx : x ≥ n
          · simp [hx]; split <;> simp
          · simp [hx]
      rw [List.foldl_cons, List.length_cons]
      omega
  have h := this l ([], false)
  unfold insertM
  simp only
  split
  · rename_i h2; rw [if_pos h2] at h; simp at h; omega
  · rename_i h2; rw [if_neg h2] at h; simp at h ⊢; omega

def insAll (l : List Atom) (u : List Int) : List Int := l.foldl (fun u a => if a.tmp ≥ 0 then insertM u a.tmp else u) u
theorem insAll_len (l : List Atom) : ∀ u, (insAll l u).length ≤ u.length + l.length := by
  induction l with
  | nil => intro u; simp [insAll]
  | cons a r ih =>
    intro u
    have h1 := ih (if a.tmp ≥ 0 then insertM u a.tmp else u)
    have h2 : (if a.tmp ≥ 0 then insertM u a.tmp else u).length ≤ u.length + 1 := by
      split
      · exact insertM_len u a.tmp
      · omega
    unfold insAll at h1 ⊢
    rw [List.foldl_cons, List.length_cons]; omega
theorem insAll_mem (x : Int) (l : List Atom) : ∀ u, x ∈ insAll l u ↔ (0 ≤ x ∧ ∃ a ∈ l, a.tmp = x) ∨ x ∈ u := by
  induction l with
  | nil => intro u; simp [insAll]
  | cons a r ih =>
    intro u
    have := ih (if a.tmp ≥ 0 then insertM u a.tmp else u)
    unfold insAll at this ⊢
    rw [List.foldl_cons, this]
    by_cases h : a.tmp ≥ 0
    · rw [if_pos h, mem_insertM]
      constructor
      · rintro (⟨h0, c, hc, e⟩ | rfl | hu)
        · exact .inl ⟨h0, c, by simp [hc], e⟩
        · exact .inl ⟨h, a, by simp, rfl⟩
        · exact .inr hu
      · rintro (⟨h0, c, hc, e⟩ | hu)
        · rcases List.mem_cons.1 hc with rfl | hc
          · exact .inr (.inl e.symm)
          · exact .inl ⟨h0, c, hc, e⟩
        · exact .inr (.inr hu)
    · rw [if_neg h]
      constructor
      · rintro (⟨h0, c, hc, e⟩ | hu)
        · exact .inl ⟨h0, c, by simp [hc], e⟩
        · exact .inr hu
      · rintro (⟨h0, c, hc, e⟩ | hu)
        · rcases List.mem_cons.1 hc with rfl | hc
          · omega
          · exact .inl ⟨h0, c, hc, e⟩
        · exact .inr hu

theorem zlenU {x : Option (List SV)} {n : Nat} (h : x.map (·.length) = some n) : ∃ z, x = some z ∧ z.length = n := by
  cases x with
  | none => cases h
  | some z => exact ⟨z, rfl, by simpa using h⟩
theorem bytes79 : bytes? (kt.at 79) 28 = some 32 := by kernel_rfl
theorem zero79 : ∃ z, zero? (kt.at 79) 28 = some z ∧ z.length = 6 := zlenU (by kernel_rfl)

/-- A list as it stands, or none. -/
def orNil (u : List Int) : SV := if u = [] then .v (.slice none 0 0) else nums u
theorem orNil_ws (u : List Int) : weak (shut (orNil u)) = nums u := by
  unfold orNil
  split
  · rename_i h; subst h; rfl
  · exact nums_ws u

theorem usesLoop {F : List SV → St → Option (Ex × List SV × St)} (l : List Atom) (S : St) (hl : l.length ≤ 390000)
    (hF : ∀ (u : List Int) (i : Nat) (h : i < l.length), u.length ≤ 400000 → F [orNil u, .v (.int .i64 (i : Int))] S = some (.normal, [if l[i].tmp ≥ 0 then nums (insertM u l[i].tmp) else orNil u, .v (.int .i64 ((i + 1 : Nat) : Int))], S))
    (hE : ∀ u : List Int, F [orNil u, .v (.int .i64 (l.length : Int))] S = some (.exit 0, [orNil u, .v (.int .i64 (l.length : Int))], S)) :
    iter F 400000 [orNil [], .v (.int .i64 0)] S = some (.exit 0, [orNil (insAll l []), .v (.int .i64 (l.length : Int))], S) := by
  suffices ∀ (suf : List Atom) (i : Nat), l.drop i = suf → i ≤ l.length → ∀ (u : List Int) (M : Nat), u.length ≤ i → suf.length < M → iter F M [orNil u, .v (.int .i64 (i : Int))] S = some (.exit 0, [orNil (insAll suf u), .v (.int .i64 (l.length : Int))], S) by
    exact this l 0 rfl (by omega) [] 400000 (by simp) (by omega)
  intro suf
  induction suf with
  | nil =>
    intro i hd hi u M hu hM
    obtain ⟨M, rfl⟩ : ∃ m, M = m + 1 := ⟨M - 1, by have : 0 < M := hM; omega⟩
    have : l.length ≤ i := by
      have := congrArg List.length hd
      simp at this; omega
    have e : i = l.length := by omega
    subst e
    exact iter_exit (hE u)
  | cons x r ih =>
    intro i hd hi u M hu hM
    obtain ⟨M, rfl⟩ : ∃ m, M = m + 1 := ⟨M - 1, by rw [List.length_cons] at hM; omega⟩
    have hlt : i < l.length := by
      have := congrArg List.length hd
      simp at this; omega
    have hx : l[i] = x := by
      have := congrArg (fun z => z[0]?) hd
      simp [hlt] at this
      exact this
    have hdr : l.drop (i + 1) = r := by
      have := congrArg List.tail hd
      simpa using this
    have step := hF u i hlt (by omega)
    rw [hx] at step
    have e : (if x.tmp ≥ 0 then nums (insertM u x.tmp) else orNil u) = orNil (if x.tmp ≥ 0 then insertM u x.tmp else u) := by
      split
      · have : insertM u x.tmp ≠ [] := by
          intro h
          have := (mem_insertM u x.tmp x.tmp).2 (.inl rfl)
          rw [h] at this; simp at this
        unfold orNil
        rw [if_neg this]
      · rfl
    rw [e] at step
    have hl2 : (if x.tmp ≥ 0 then insertM u x.tmp else u).length ≤ i + 1 := by
      split
      · have := insertM_len u x.tmp; omega
      · omega
    rw [iter_normal step, ih (i + 1) hdr hlt _ M hl2 (by simpa using hM)]
    rfl

set_option maxHeartbeats 1000000 in
theorem spec79 (s : Stmt) (h1 : s.l.length ≤ 190000) (h2 : s.e.l.length ≤ 190000) (S : St) : run kt (.func 79 [] []) [.agg s.t57.enc] S = some (nums (insAll (usesAt s) []), S) := by
  suffices ∃ y S2, cBody (kt.at 79) h79 (run kt) 400000 (compF Tryz.f79) [.agg s.t57.enc] St0 = some (y, S2) ∧ erase S2 y = nums (insAll (usesAt s) []) by
    obtain ⟨y, S2, h1, h2⟩ := this
    have := go_closed ks_kt (f := 79) (fst := []) (cap := []) (args := [.agg s.t57.enc]) (S := S) h79 400000 rfl (fn_kt 79 fn79) rfl (z := (y, S2)) (by
      simp only [List.nil_append, List.append_nil, List.map_cons, List.map_nil, stmt_ws]
      exact h1)
    rw [h2] at this
    exact this
  rw [tell79]
  obtain ⟨z, hz, hzl⟩ := zero79
  have he : elem? (kt.at 79) 53 = some 28 := elem_of (P_kt 79) Tryz.underlying53
  have hs := size28k (P_kt 79)
  obtain ⟨y1, S1, a1, o1, f1, n1⟩ := own_append ac_len he hs bytes79 hz (by decide) (by decide) hzl (by decide) (own0 ac 6 (S := St0) (by decide)) s.l (by simp only [room, List.length_nil]; omega)
  rw [List.nil_append] at o1
  simp only [Stmt.t57]
  rw [show appendE (kt.at 79) 53 .emp (atoms s.l) St0 = some (y1, S1) from a1]
  simp only [Option.bind_some, splitB_dec]
  have er : ∀ (u : List Int) (S : St), erase S (orNil u) = nums u := by
    intro u S
    unfold orNil
    split
    · rename_i h; subst h; rfl
    · exact nums_erase S u
  -- a loop over a list of one's own
  have loop : ∀ (l : List Atom) (y : SV) (S : St), Own ac 6 l y S → l.length ≤ 390000 → ∃ y2 S2, ((iter (fun vs2 S3 => openHd vs2 fun y4 r5 => openHd r5 fun y6 r7 => openInt y6 fun a8 => (lenE (kt.at 79) 53 y).bind fun r9 => openInt r9 fun a10 => (if a8 < a10 then
 ((indexAddrE (kt.at 79) 53 y (.v (.int .i64 a8))).bind fun r11 => openCp cd28 r11 fun t12 => (if t12.tmp ≥ (0 : Int) then
 ((indexAddrE (kt.at 79) 53 y (.v (.int .i64 a8))).bind fun r13 => openCp cd28 r13 fun t14 => (run kt (.func 140 [] []) [y4, (.v (.int .i64 t14.tmp))] S3).bind fun p15 => (some (.normal, ([p15.1, (.v (.int .i64 (IntKind.wrap .i64 (a8 + (1 : Int)))))], p15.2)))) else
 ((some (.normal, ([y4, (.v (.int .i64 (IntKind.wrap .i64 (a8 + (1 : Int)))))], S3)))))) else
 ((some ((.exit 0), ([y4, (.v (.int .i64 a8))], S3)))))) 400000 [(.v (.slice none 0 0)), (.v (.int .i64 (0 : Int)))] S).bind fun q16 => openHd q16.2.1 fun y17 r18 => openHd r18 fun y19 r20 => openInt y19 fun a21 => (exits q16.1 (fun i22 => (if i22 = 0 then (some (y17, q16.2.2)) else none)) ((some ((SV.v (.slice none 0 0)), q16.2.2))))) = some (y2, S2) ∧ erase S2 y2 = nums (insAll l []) := by
    intro l y S ho hl
    generalize hF : (fun vs0 S1 => _ : List SV → St → Option (Ex × List SV × St)) = F
    have := usesLoop (F := F) l S hl (fun u i h hu => by
      rw [← hF]
      simp only [openHd_v, openInt_v, own_len (P_kt 79) Tryz.underlying53 ho, Option.bind_some]
      rw [if_pos (by omega), own_index (P_kt 79) Tryz.underlying53 size28' ac_len ho i h .i64]
      simp only [Option.bind_some, show openCp (Z := Ex × List SV × St) cd28 (.cp (ac l[i])) = openCp cd28 (.cp l[i].t28.enc) from rfl, openCp28']
      rw [wrap_in (by omega) (by omega)]
      by_cases hp : l[i].tmp ≥ 0
      · have hp' : l[i].t28.tmp ≥ 0 := hp
        have h140 : run kt (.func 140 [] []) [orNil u, .v (.int .i64 l[i].t28.tmp)] S = _ := spec140 u l[i].tmp hu S (orNil_ws u)
        rw [if_pos hp', if_pos hp, h140]
        rfl
      · have hp' : ¬ l[i].t28.tmp ≥ 0 := hp
        rw [if_neg hp', if_neg hp]; rfl)
      (fun u => by
        rw [← hF]
        simp only [openHd_v, openInt_v, own_len (P_kt 79) Tryz.underlying53 ho, Option.bind_some]
        rw [if_neg (by omega)])
    have this : iter F 400000 [.v (.slice none 0 0), .v (.int .i64 0)] S = _ := this
    rw [this]
    exact ⟨_, _, rfl, er _ _⟩
  by_cases hk : s.kind = 2
  · have hkb : (s.kind == 2) = true := by simpa using hk
    rw [hkb, splitB_t]
    obtain ⟨y2, S2, a2, o2, f2, n2⟩ := own_append ac_len he hs bytes79 hz (by decide) (by decide) hzl (by decide) o1 s.e.l (by simp only [room]; omega)
    rw [show appendE (kt.at 79) 53 y1 (atoms s.e.l) S1 = some (y2, S2) from a2]
    simp only [Option.bind_some]
    have hu : usesAt s = s.l ++ s.e.l := by simp [usesAt, hk]
    rw [hu]
    exact loop _ _ _ o2 (by simp; omega)
  · have hkb : (s.kind == 2) = false := by simpa using hk
    rw [hkb, splitB_f]
    have hu : usesAt s = s.l := by simp [usesAt, hk]
    rw [hu]
    exact loop _ _ _ o1 (by omega)
end Go.Sv
end
section
namespace Go.Sv
open Go Go.Proofs Go.Proofs.YtkflapebfmcmaaaGreat
set_option linter.all false
set_option maxRecDepth 100000

/-! What a valid block is. -/
def stepC (tmps : List Int) (D : List Int) (s : Stmt) : Option (List Int) :=
  if validM tmps s = true ∧ (∀ a ∈ usesAt s, 0 ≤ a.tmp → a.tmp ∈ D) ∧ (0 ≤ defM s → defM s ∉ D) then some (if 0 ≤ defM s then defM s :: D else D) else none
def chkL (tmps : List Int) : List Int → List Stmt → Option (List Int)
  | D, [] => some D
  | D, s :: r => (stepC tmps D s).bind fun D => chkL tmps D r
def limB (b : Block) : Prop := b.tmps.length ≤ 4000 ∧ b.l.length ≤ 2000 ∧ b.spans.length ≤ 100 ∧ (∀ t ∈ b.tmps, bytesM t ≠ 0) ∧ ∀ p ∈ b.spans, badSpan p = false
instance (b : Block) : Decidable (limB b) := by unfold limB; exact inferInstance
def endB (b : Block) (D : List Int) : Bool := atomTy b.tmps b.next == 32 && ((decide (b.next.tmp < 0) || D.contains b.next.tmp) && (decide (1 ≤ b.jump) && decide (b.jump ≤ 9)))
def okB (b : Block) : Bool := decide (limB b) && match chkL b.tmps [] b.l with
  | none => false
  | some D => endB b D
def errB (b : Block) : Int := if okB b = true then 0 else 7

/-! Valid statements stay in bounds. -/
theorem atomTy_in {l : List Int} {a : Atom} (h : atomTy l a ≠ 0) : a.tmp < l.length := by
  unfold atomTy at h
  split at h
  · rename_i h1
    have : a.tmp = -1 := by simpa using h1
    omega
  · split at h
    · rename_i h1; omega
    · exact (h rfl).elim
theorem valid_uses {tmps : List Int} {s : Stmt} (h : validM tmps s = true) : ∀ a ∈ usesAt s, atomTy tmps a ≠ 0 := by
  unfold validM at h
  split at h
  · cases h
  have h1 : 0 ∉ typesM tmps s.l := by
    intro h0
    rw [validK_zero _ _ _ _ h0] at h; cases h
  intro a ha h0
  unfold usesAt at ha
  rcases List.mem_append.1 ha with ha | ha
  · exact h1 (by rw [← h0]; exact List.mem_map_of_mem ha)
  · split at ha
    · rename_i hk
      have h2 : 0 ∉ typesM tmps s.e.l := by
        intro h0
        have : exprTyM tmps s.e = 0 := tyM_zero _ _ _ _ _ h0
        unfold validK at h
        simp [hk, this] at h
      exact h2 (by rw [← h0]; exact List.mem_map_of_mem ha)
    · simp at ha
theorem hasTy_in {tmps : List Int} {t ty : Int} (h : hasTy tmps t ty = true) : 0 ≤ t ∧ t < tmps.length := by
  unfold hasTy at h
  simp only [Bool.and_eq_true, decide_eq_true_eq] at h
  exact ⟨h.1, h.2.1⟩
theorem valid_def {tmps : List Int} {s : Stmt} (h : validM tmps s = true) : (s.kind = 2 ∨ s.kind = 5 → 0 ≤ s.tmp ∧ s.tmp < tmps.length) ∧ (defM s = -1 ∨ (0 ≤ defM s ∧ defM s < tmps.length)) := by
  have h1 : s.kind = 2 ∨ s.kind = 5 → 0 ≤ s.tmp ∧ s.tmp < tmps.length := by
    unfold validM at h
    split at h
    · cases h
    · intro hk
      rcases hk with hk | hk
      · unfold validK at h
        simp [hk] at h
        exact hasTy_in h.2.2.2.2
      · unfold validK at h
        simp [hk] at h
        exact hasTy_in h.2.2.2.2.2
  refine ⟨h1, ?_⟩
  unfold defM
  by_cases hk : s.kind = 2 ∨ s.kind = 5
  · have := h1 hk
    right
    have : (s.kind == 2 || s.kind == 5) = true := by simpa using hk
    rw [if_pos this]; assumption
  · have : ¬ (s.kind == 2 || s.kind == 5) = true := by simpa using hk
    rw [if_neg this]; exact .inl rfl

/-! A row of flags. -/
def flags (n : Nat) (D : List Int) : List SV := (List.range n).map fun (i : Nat) => .v (.bool (D.contains (i : Int)))
theorem flags_len (n : Nat) (D : List Int) : (flags n D).length = n := by simp [flags]
theorem flags_get (n : Nat) (D : List Int) (i : Nat) (h : i < n) : (flags n D)[i]? = some (.v (.bool (D.contains (i : Int)))) := by
  simp [flags, h]
theorem flags_set (n : Nat) (D : List Int) (i : Nat) (h : i < n) : splice (flags n D) i [.v (.bool true)] = flags n ((i : Int) :: D) := by
  apply List.ext_getElem?
  intro j
  unfold splice
  by_cases hj : j < n
  · rw [flags_get _ _ _ hj]
    have hl : (List.take i (flags n D)).length = i := by simp [flags_len]; omega
    by_cases h1 : j < i
    · rw [List.append_assoc, List.getElem?_append_left (by omega), List.getElem?_take_of_lt h1, flags_get _ _ _ hj]
      have : ¬ (j : Int) = i := by omega
      simp [this]
    · by_cases h2 : j = i
      · subst h2
        rw [List.append_assoc, List.getElem?_append_right (by omega), hl]
        simp
      · rw [List.append_assoc, List.getElem?_append_right (by omega), hl, List.getElem?_append_right (by simp; omega), List.getElem?_drop]
        simp only [List.length_singleton]
        rw [show i + 1 + (j - i - 1) = j by omega, flags_get _ _ _ hj]
        have : ¬ (j : Int) = i := by omega
        simp [this]
  · have h1 : (flags n ((i : Int) :: D))[j]? = none := by simp [flags_len]; omega
    rw [h1]
    apply List.getElem?_eq_none
    simp [flags_len]; omega
theorem flags0 (n : Nat) : (List.replicate n [SV.v (.bool false)]).flatten = flags n [] := by
  have : ∀ f : Nat → SV, (∀ i, f i = .v (.bool false)) → ∀ n, (List.replicate n [SV.v (.bool false)]).flatten = (List.range n).map f := by
    intro f hf n
    induction n with
    | zero => rfl
    | succ n ih => rw [List.replicate_succ', List.flatten_append, ih, List.range_succ]; simp [hf]
  exact this _ (fun i => by simp) n

theorem size4 : (Tryz.prog.info? 4).map (·.size) = some 1 := by kernel_rfl
theorem ag4 {k : K} (hP : k.P = Tryz.prog) : agg? k 4 = some false := by unfold agg?; rw [hP, Tryz.underlying4]
theorem flag_addr {k : K} (hP : k.P = Tryz.prog) (b n : Nat) (j : Int) (h0 : 0 ≤ j) (h : j < n) (q : IntKind) : indexAddrE k 124 (.arr b n) (.v (.int q j)) = some (.ptr b j.toNat) := by
  simp only [indexAddrE, hP, Tryz.underlying124, size_of hP size4, Option.bind_some]
  rw [if_pos ⟨h0, h⟩, Nat.mul_one]
theorem flag_load {k : K} (hP : k.P = Tryz.prog) {b n : Nat} {D : List Int} {S : St} (hg : S.get b = .arr 1 (flags n D)) (j : Int) (h0 : 0 ≤ j) (h : j < n) : loadE k 4 (.ptr b j.toNat) S = some (.v (.bool (D.contains j))) := by
  have hj : j.toNat < n := by omega
  simp only [loadE, ag4 hP, size_of hP size4, Option.bind_some, hg, objCells, takeVal, Bool.false_eq_true, if_false]
  rw [List.head?_drop, flags_get _ _ _ hj, Int.toNat_of_nonneg h0]
theorem flag_store {Z : Type} {k : K} (hP : k.P = Tryz.prog) {b n : Nat} {D : List Int} {S : St} (hg : S.get b = .arr 1 (flags n D)) (hf : S.floor ≤ b) (j : Int) (h0 : 0 ≤ j) (h : j < n) (K : St → Option Z) :
    storeK k 4 (.ptr b j.toNat) (.v (.bool true)) S K = K (S.put b (.arr 1 (flags n (j :: D)))) := by
  have hj : j.toNat < n := by omega
  simp only [storeK, size_of hP size4, Option.bind_some, cellsK, if_true, if_pos (show single (SV.v (.bool true)) = true from rfl), if_pos hf, hg, List.length_singleton, flags_len]
  rw [if_pos (by omega), flags_set n D j.toNat hj, Int.toNat_of_nonneg h0]

/-! More loops. -/
/-- A loop that leaves at the first element of a kind. -/
theorem iter_anyX {α : Type} (ex : Nat) {F : List SV → St → Option (Ex × List SV × St)} (l : List α) (vs : Nat → List SV) (S0 : St) (c : α → Bool) (out : Nat → List SV)
    (hstep : ∀ i (h : i < l.length), F (vs i) S0 = if c l[i] = true then some (.ret, out i, S0) else some (.normal, vs (i + 1), S0))
    (hend : F (vs l.length) S0 = some (.exit ex, vs l.length, S0)) {M : Nat} (hM : l.length < M) :
    ∃ j, iter F M (vs 0) S0 = if l.any c = true then some (.ret, out j, S0) else some (.exit ex, vs l.length, S0) := by
  suffices ∀ (suf : List α) (i : Nat), l.drop i = suf → i ≤ l.length → ∀ M, suf.length < M → ∃ j, iter F M (vs i) S0 = if suf.any c = true then some (.ret, out j, S0) else some (.exit ex, vs l.length, S0) by
    exact this l 0 rfl (by omega) M hM
  intro suf
  induction suf with
  | nil =>
    intro i hd hi M hM
    obtain ⟨M, rfl⟩ : ∃ m, M = m + 1 := ⟨M - 1, by have : 0 < M := hM; omega⟩
    have : l.length ≤ i := by
      have := congrArg List.length hd
      simp at this; omega
    have e : i = l.length := by omega
    subst e
    exact ⟨0, iter_exit hend⟩
  | cons x r ih =>
    intro i hd hi M hM
    obtain ⟨M, rfl⟩ : ∃ m, M = m + 1 := ⟨M - 1, by rw [List.length_cons] at hM; omega⟩
    have hlt : i < l.length := by
      have := congrArg List.length hd
      simp at this; omega
    have hx : l[i] = x := by
      have := congrArg (fun z => z[0]?) hd
      simp [hlt] at this
      exact this
    have hdr : l.drop (i + 1) = r := by
      have := congrArg List.tail hd
      simpa using this
    have step := hstep i hlt
    rw [hx] at step
    rw [List.any_cons]
    cases hc : c x with
    | true =>
      rw [hc, if_pos rfl] at step
      exact ⟨i, by rw [iter_ret step]; rfl⟩
    | false =>
      rw [hc, if_neg (by decide)] at step
      obtain ⟨j, hj⟩ := ih (i + 1) hdr hlt M (by simpa using hM)
      exact ⟨j, by rw [iter_normal step, hj]; simp⟩

/-- A loop that keeps something and may leave. -/
theorem iter_foldO {α β : Type} (ex : Nat) {F : List SV → St → Option (Ex × List SV × St)} (l : List α) (f : β → α → Option β) (vs : Nat → List SV) (I : β → St → Prop) (ret : List SV → Prop)
    (hstep : ∀ i (h : i < l.length) b S, I b S → match f b l[i] with
      | none => ∃ o S', ret o ∧ F (vs i) S = some (.ret, o, S')
      | some b' => ∃ S', F (vs i) S = some (.normal, vs (i + 1), S') ∧ I b' S')
    (hend : ∀ b S, I b S → F (vs l.length) S = some (.exit ex, vs l.length, S)) :
    ∀ (suf : List α) (i : Nat), l.drop i = suf → i ≤ l.length → ∀ (b : β) (S : St) (M : Nat), I b S → suf.length < M →
      match suf.foldlM f b with
      | none => ∃ o S', ret o ∧ iter F M (vs i) S = some (.ret, o, S')
      | some b' => ∃ S', iter F M (vs i) S = some (.exit ex, vs l.length, S') ∧ I b' S'
  | [], i, hd, hi, b, S, M, hI, hM => by
    obtain ⟨M, rfl⟩ : ∃ m, M = m + 1 := ⟨M - 1, by have : 0 < M := hM; omega⟩
    have : l.length ≤ i := by
      have := congrArg List.length hd
      simp at this; omega
    have e : i = l.length := by omega
    subst e
    exact ⟨S, iter_exit (hend b S hI), hI⟩
  | x :: r, i, hd, hi, b, S, M, hI, hM => by
    obtain ⟨M, rfl⟩ : ∃ m, M = m + 1 := ⟨M - 1, by rw [List.length_cons] at hM; omega⟩
    have hlt : i < l.length := by
      have := congrArg List.length hd
      simp at this; omega
    have hx : l[i] = x := by
      have := congrArg (fun z => z[0]?) hd
      simp [hlt] at this
      exact this
    have hdr : l.drop (i + 1) = r := by
      have := congrArg List.tail hd
      simpa using this
    have step := hstep i hlt b S hI
    rw [hx] at step
    rw [List.foldlM_cons]
    cases hf : f b x with
    | none =>
      rw [hf] at step
      obtain ⟨o, S', h1, h2⟩ := step
      exact ⟨o, S', h1, iter_ret h2⟩
    | some b' =>
      rw [hf] at step
      obtain ⟨S', h1, h2⟩ := step
      have := iter_foldO ex l f vs I ret hstep hend r (i + 1) hdr hlt b' S' M h2 (by simpa using hM)
      rw [iter_normal h1]
      exact this
theorem chkL_foldlM (tmps : List Int) : ∀ (l : List Stmt) (D : List Int), chkL tmps D l = l.foldlM (stepC tmps) D
  | [], D => rfl
  | s :: r, D => by
    rw [chkL, List.foldlM_cons]
    cases stepC tmps D s with
    | none => rfl
    | some D' => exact chkL_foldlM tmps r D'
end Go.Sv
end
