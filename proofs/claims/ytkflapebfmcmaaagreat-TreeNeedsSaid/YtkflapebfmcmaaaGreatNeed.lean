/- A part of the proofs of this seat's laws: an interpreter of the program's form, its soundness against the model, or what it answers on this program. -/
import Derived.Test.YtkflapebfmcmaaaGreatCount
import Derived.Test.YtkflapebfmcmaaaGreatSortP
namespace Go.Sv
open Go Go.Proofs Go.Proofs.YtkflapebfmcmaaaGreat
set_option linter.all false
set_option maxRecDepth 100000

theorem kp_k1 : KP k1 := by
  intro f p h
  have h : (if f = 92 then some sortP else none) = some p := h
  split at h
  · rename_i hf; subst hf; injection h with h; subst h; exact sortP_ok
  · cases h

theorem agg_of {k : K} (hP : k.P = Tryz.prog) {t : TypeId} {fs : Array Field} (h : Tryz.prog.underlying t = some (.struct fs)) : agg? k t = some true := by
  unfold agg?; rw [hP, h]
theorem agg_int {k : K} (hP : k.P = Tryz.prog) {t : TypeId} {q : IntKind} (h : Tryz.prog.underlying t = some (.int q)) : agg? k t = some false := by
  unfold agg?; rw [hP, h]

theorem store_new {Z : Type} {k : K} {t sz : Nat} (hs : size? k t = some sz) (h1 : sz ≠ 1) {S : St} (hf : S.floor ≤ S.next) {zs ys : List SV} (hz : zs.length = sz) (hy : ys.length = sz) (K : St → Option Z) :
    storeK k t (.ptr S.next 0) (.agg ys) (S.alloc (.cells zs)) K = K ((S.alloc (.cells zs)).put S.next (.cells ys)) := by
  have hsp : splice zs 0 ys = ys := by simp [splice, hz, hy]
  simp only [storeK, hs, Option.bind_some, cellsK, if_neg h1, if_pos hy]
  have : (S.alloc (SObj.cells zs)).floor ≤ S.next := hf
  rw [if_pos this]
  have hg : (S.alloc (SObj.cells zs)).get S.next = .cells zs := by simp [St.alloc]
  rw [hg]
  simp only
  rw [if_pos (by omega), hsp]

theorem load_new {k : K} {t sz : Nat} (ha : agg? k t = some true) (hs : size? k t = some sz) {S : St} {o : SObj} {ys : List SV} (hy : ys.length = sz) : loadE k t (.ptr S.next 0) ((S.alloc o).put S.next (.cells ys)) = some (.agg ys) := by
  have hg : ((S.alloc o).put S.next (.cells ys)).get S.next = .cells ys := by simp [St.put]
  simp only [loadE, ha, hs, Option.bind_some, hg, objCells, takeVal, List.drop_zero, if_true]
  rw [if_pos (by omega), ← hy, List.take_length]

theorem fn_k1 (f : FuncId) {c : CF} (h : fnsK f = some c) : k1.fns f = some c := h
theorem fn91 : fnsK 91 = some (compF Tryz.f91) := by kernel_rfl
theorem fn36 : fnsK 36 = some (compF Tryz.f36) := by kernel_rfl
theorem bytes3 : bytes? (k1.at 91) 3 = some 8 := by kernel_rfl
theorem zero3 : zero? (k1.at 91) 3 = some [.v (.int .i64 0)] := by kernel_rfl

def ints (l : List Int) : List SV := l.map fun x => .v (.int .i64 x)

/-- What mapped has at hand behind so many rounds. -/
def Mid1 (fl : Nat) (l : List Int) (y : SV) (S : St) : Prop :=
  S.floor = fl ∧ S.floor ≤ S.next ∧ ((l = [] ∧ y = .v (.slice none 0 0)) ∨ ∃ b, y = .arr b l.length ∧ S.get b = .arr 1 (ints l) ∧ b < S.next ∧ S.floor ≤ b)

theorem append_ints {l : List Int} {y : SV} {S : St} {fl : Nat} (h : Mid1 fl l y S) (hl : l.length ≤ 100000) (a : Int) : ∃ y' S', appendE (k1.at 91) 22 y (.arr S.next 1) (S.alloc (.arr 1 [.v (.int .i64 a)])) = some (y', S') ∧ Mid1 fl (l ++ [a]) y' S' := by
  obtain ⟨hf, hn, h⟩ := h
  have he : elem? (k1.at 91) 22 = some 3 := elem_of (P_k1 91) Tryz.underlying22
  have hs : size? (k1.at 91) 3 = some 1 := size_of (P_k1 91) size3
  have hg : (S.alloc (.arr 1 [.v (.int .i64 a)])).get S.next = .arr 1 [.v (.int .i64 a)] := by simp [St.alloc]
  have hbx : (k1.at 91).inBox 3 = 1 := rfl
  rcases h with ⟨rfl, rfl⟩ | ⟨b, rfl, hb, hbn, hbf⟩
  · refine ⟨.arr (S.next + 1) 1, (S.alloc (.arr 1 [.v (.int .i64 a)])).alloc (.arr 1 [.v (.int .i64 a)]), by simp [appendE, he, hs, bytes3, zero3, srcCells, hg, hbx, room]; rfl, hf, ?_, .inr ⟨S.next + 1, rfl, ?_, ?_, ?_⟩⟩
    · simp [St.alloc]; omega
    · simp [St.alloc, ints]
    · simp [St.alloc]
    · simp [St.alloc]; omega
  · have hgb : (S.alloc (.arr 1 [.v (.int .i64 a)])).get b = .arr 1 (ints l) := by
      have : b ≠ S.next := by omega
      simp [St.alloc, this, hb]
    refine ⟨.arr (S.next + 1) (l.length + 1), ((S.alloc (.arr 1 [.v (.int .i64 a)])).put b .dead).alloc (.arr 1 (ints l ++ [.v (.int .i64 a)])), by
      simp only [appendE, he, hs, bytes3, zero3, srcCells, hg, hbx, Option.bind_some, List.length_singleton]
      simp only [Nat.mul_one, if_true, Nat.one_ne_zero, if_false, hgb]
      simp only [Option.bind_some]
      rw [if_neg (by simp), if_neg (by simp), if_pos ⟨by simp [St.alloc]; omega, trivial, by simp [ints], by simp only [room]; omega, trivial⟩]
      rfl, hf, ?_, .inr ⟨S.next + 1, by simp, ?_, ?_, ?_⟩⟩
    · simp [St.alloc, St.put]; omega
    · simp [St.alloc, St.put, ints]
    · simp [St.alloc, St.put]
    · simp [St.alloc, St.put]; omega

/-- mapped over trees with a function that gives whole numbers. -/
theorem mapped_spec (fv : SV) (g : Tree → Int) (l : List Tree) (hl : l.length ≤ 100000) (hfv : ∀ t ∈ l, ∀ S, run k1 fv [.agg t.cells] S = some (.v (.int .i64 (g t)), S)) (hfun : ∃ f a c, fv = .func f a c) (S : St) (hS : S.floor ≤ S.next) :
    ∃ y S', run k1 (.func 91 [] []) [sl Tree.cells l, fv] S = some (y, S') ∧ Mid1 S.floor (l.map g) y S' := by
  obtain ⟨f, a, c, rfl⟩ := hfun
  have hg := tell91k1 200000 l.length (l.flatMap Tree.cells) f a c S
  have hz : ([.v (.int .i64 0), .v (.int .i64 0), .v (.int .u32 0), .v (.int .u32 0), .v (.int .u32 0), .v (.int .u32 0), .v (.int .i64 0), .v (.int .i64 0), .v (.int .i64 0), .v (.int .i64 0), .v (.slice none 0 0)] : List SV).length = 11 := rfl
  suffices ∃ y S', cBody (k1.at 91) h91k1 (run k1) 200000 (compF Tryz.f91) [.sl none l.length (l.flatMap Tree.cells), .func f a c] S = some (y, S') ∧ Mid1 S.floor (l.map g) y S' by
    obtain ⟨y, S', h1, h2⟩ := this
    exact ⟨y, S', go_plain ks_k1 h91k1 200000 rfl (fn_k1 91 fn91) rfl h1, h2⟩
  rw [hg]
  clear hg
  rw [show (SV.sl none l.length (l.flatMap Tree.cells)) = sl Tree.cells l from rfl]
  generalize hF : (fun vs0 S1 => _ : List SV → St → Option (Ex × List SV × St)) = F
  have loop : ∀ (suf pre : List Tree), l = pre ++ suf → ∀ (M : Nat) (y : SV) (S1 : St), suf.length < M → Mid1 S.floor (pre.map g) y S1 →
      ∃ y' S', iter F M [y, .v (.int .i64 (pre.length : Int))] S1 = some (.exit 0, [y', .v (.int .i64 (l.length : Int))], S') ∧ Mid1 S.floor (l.map g) y' S' := by
    intro suf
    induction suf with
    | nil =>
      intro pre hp M y S1 hM hm
      obtain ⟨M, rfl⟩ : ∃ m, M = m + 1 := ⟨M - 1, by omega⟩
      simp at hp
      subst hp
      refine ⟨y, S1, iter_exit ?_, hm⟩
      rw [← hF]
      simp only [openHd_v, openInt_v, splitB_if]
      rw [if_neg (by simp)]
    | cons t r ih =>
      intro pre hp M y S1 hM hm
      obtain ⟨M, rfl⟩ : ∃ m, M = m + 1 := ⟨M - 1, by omega⟩
      have hlt : pre.length < l.length := by rw [hp]; simp
      have hget : l[pre.length] = t := by simp [hp]
      have hmem : t ∈ l := by rw [hp]; simp
      have hs37 : size? (k1.at 91) 37 = some 11 := size_of (P_k1 91) size37
      obtain ⟨y', S', ha, hm'⟩ := append_ints (l := pre.map g) (y := y) (S := (S1.alloc (.cells [.v (.int .i64 0), .v (.int .i64 0), .v (.int .u32 0), .v (.int .u32 0), .v (.int .u32 0), .v (.int .u32 0), .v (.int .i64 0), .v (.int .i64 0), .v (.int .i64 0), .v (.int .i64 0), .v (.slice none 0 0)])).put S1.next (.cells t.cells)) (fl := S.floor) (by
          obtain ⟨h1, h2, h3⟩ := hm
          refine ⟨h1, by simp [St.alloc, St.put]; omega, ?_⟩
          rcases h3 with h3 | ⟨b, e, hb, hbn, hbf⟩
          · exact .inl h3
          · refine .inr ⟨b, e, ?_, by simp [St.alloc, St.put]; omega, hbf⟩
            have : b ≠ S1.next := by omega
            simp [St.alloc, St.put, this, hb]) (by simp; omega) (g t)
      obtain ⟨z, S'', h5, h6⟩ := ih (pre ++ [t]) (by rw [hp]; simp) M y' S' (by simp at hM; omega) (by rw [List.map_append]; exact hm')
      refine ⟨z, S'', ?_, h6⟩
      rw [iter_normal (F := F) (vs' := [y', .v (.int .i64 ((pre.length : Int) + 1))]) (S' := S') (by
        rw [← hF]
        simp only [openHd_v, openInt_v, splitB_if]
        rw [if_pos (by simp; omega), index_sl (P_k1 91) Tryz.underlying35 size37 Tree.cells Tree.cells_len l pre.length hlt, hget]
        simp only [Option.bind_some]
        rw [show openCp cd37 (.cp t.cells) = openCp cd37 (.cp t.t37.enc) from rfl, openCp37]
        rw [store_new hs37 (by decide) hm.2.1 hz rfl, load_new (agg_of (P_k1 91) Tryz.underlying37) hs37 rfl]
        simp only [Option.bind_some]
        rw [openAgg37]
        have := hfv t hmem ((S1.alloc (.cells [.v (.int .i64 0), .v (.int .i64 0), .v (.int .u32 0), .v (.int .u32 0), .v (.int .u32 0), .v (.int .u32 0), .v (.int .i64 0), .v (.int .i64 0), .v (.int .i64 0), .v (.int .i64 0), .v (.slice none 0 0)])).put S1.next (.cells t.t37.enc))
        unfold Tree.cells at this
        rw [this]
        simp only [Option.bind_some, openInt_v]
        unfold Tree.cells at ha
        rw [ha]
        simp only [Option.bind_some]
        rw [wrap_in (by omega) (by omega)])]
      have e : ((pre ++ [t]).length : Int) = (pre.length : Int) + 1 := by simp
      rw [e] at h5
      exact h5
  obtain ⟨y, S', h1, h2⟩ := loop l [] rfl 200000 (.v (.slice none 0 0)) S (by omega) ⟨rfl, hS, .inl ⟨rfl, rfl⟩⟩
  have h1 : iter F 200000 [.v (.slice none 0 0), .v (.int .i64 0)] S = _ := h1
  rw [h1]
  exact ⟨y, S', by simp only [Option.bind_some, openHd_v, openInt_v, exits_exit, if_true], h2⟩
end Go.Sv
