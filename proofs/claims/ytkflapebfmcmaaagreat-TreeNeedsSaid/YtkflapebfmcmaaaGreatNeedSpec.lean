/- A part of the proofs of this seat's laws: an interpreter of the program's form, its soundness against the model, or what it answers on this program. -/
import Derived.Test.YtkflapebfmcmaaaGreatNeed
namespace Go.Sv
open Go Go.Proofs Go.Proofs.YtkflapebfmcmaaaGreat
set_option linter.all false
set_option maxRecDepth 100000

/-- The greatest of what a sorted list asks for. -/
def needGo : List Int → Nat → Int → Int
  | [], _, out => out
  | n :: r, i, out => needGo r (i + 1) (if n > 0 then (if n + i > out then n + i else out) else out)
def needF (ns : List Int) : Int := needGo (sortD ns) 0 1

mutual
def need : Tree → Int
  | .mk a kind _ _ _ l => if kind = 0 then (if a.tmp < 0 then 0 else 1) else needF (needs l)
def needs : List Tree → List Int
  | [] => []
  | t :: r => need t :: needs r
end
mutual
def tsize : Tree → Nat
  | .mk _ _ _ _ _ l => 1 + tsizes l
def tsizes : List Tree → Nat
  | [] => 0
  | t :: r => tsize t + tsizes r
end
theorem needs_eq : ∀ l, needs l = l.map need
  | [] => by simp [needs]
  | t :: r => by simp [needs, needs_eq r]

theorem needGo_zero : ∀ (l : List Int) (i : Nat) (out : Int), (∀ x ∈ l, x ≤ 0) → needGo l i out = out
  | [], _, _, _ => rfl
  | n :: r, i, out, h => by
    have hn := h n (by simp)
    rw [needGo, if_neg (by omega)]
    exact needGo_zero r _ _ (fun x hx => h x (by simp [hx]))

theorem sum_nonneg : ∀ l : List Int, (∀ x ∈ l, 0 ≤ x) → 0 ≤ l.sum
  | [], _ => by simp
  | x :: r, h => by
    have := h x (by simp)
    have := sum_nonneg r (fun x hx => h x (by simp [hx]))
    simp; omega

theorem needGo_le : ∀ (l : List Int) (i : Nat) (out : Int), (∀ x ∈ l, 0 ≤ x) → l.Pairwise (fun a b => b ≤ a) → 0 ≤ out → needGo l i out ≤ max out (i + l.sum)
  | [], i, out, _, _, _ => by simp [needGo]; omega
  | n :: r, i, out, h, hs, ho => by
    rw [List.pairwise_cons] at hs
    have hr : ∀ x ∈ r, 0 ≤ x := fun x hx => h x (by simp [hx])
    have hsum := sum_nonneg r hr
    rw [needGo]
    by_cases hn : n > 0
    · rw [if_pos hn]
      have ih := needGo_le r (i + 1) (if n + i > out then n + i else out) hr hs.2 (by split <;> omega)
      simp only [List.sum_cons]
      split at ih <;> split <;> omega
    · rw [if_neg hn]
      have hz : ∀ x ∈ r, x ≤ 0 := fun x hx => by have := hs.1 x hx; omega
      rw [needGo_zero r _ _ hz]
      have := h n (by simp)
      simp only [List.sum_cons]
      omega

theorem needGo_ge : ∀ (l : List Int) (i : Nat) (out : Int), out ≤ needGo l i out ∧ ∀ x ∈ l, x ≤ 0 ∨ x ≤ needGo l i out
  | [], _, _ => ⟨Int.le_refl _, fun x hx => by cases hx⟩
  | n :: r, i, out => by
    rw [needGo]
    obtain ⟨h1, h2⟩ := needGo_ge r (i + 1) (if n > 0 then (if n + i > out then n + i else out) else out)
    have hge : out ≤ (if n > 0 then (if n + i > out then n + i else out) else out) := by split <;> (try split) <;> omega
    refine ⟨by omega, fun x hx => ?_⟩
    rcases List.mem_cons.1 hx with rfl | hx
    · by_cases hn : x > 0
      · right
        rw [if_pos hn] at h1 ⊢
        split at h1
        · rename_i hq; rw [if_pos hq]; omega
        · rename_i hq; rw [if_neg hq]; omega
      · left; omega
    · exact h2 x hx

theorem sum_perm {l m : List Int} (h : l.Perm m) : l.sum = m.sum := by
  induction h with
  | nil => rfl
  | cons x _ ih => simp [ih]
  | swap x y l => simp; omega
  | trans _ _ h1 h2 => omega

theorem needF_bounds (ns : List Int) (h : ∀ x ∈ ns, 0 ≤ x) : 1 ≤ needF ns ∧ needF ns ≤ max 1 ns.sum ∧ ∀ x ∈ ns, x ≤ needF ns := by
  have hp := sortD_perm ns
  have h' : ∀ x ∈ sortD ns, 0 ≤ x := fun x hx => h x (hp.mem_iff.1 hx)
  have h1 := needGo_le (sortD ns) 0 1 h' (sortD_sorted ns) (by omega)
  have h2 := needGo_ge (sortD ns) 0 1
  rw [sum_perm hp] at h1
  refine ⟨h2.1, by simpa [needF] using h1, fun x hx => ?_⟩
  rcases h2.2 x (hp.mem_iff.2 hx) with h3 | h3
  · unfold needF; omega
  · exact h3

theorem need_bound : ∀ t : Tree, 0 ≤ need t ∧ need t ≤ tsize t := by
  apply Tree.ind (P := fun t => 0 ≤ need t ∧ need t ≤ tsize t)
  intro a k ty op off l ih
  rw [need, tsize]
  split
  · split <;> omega
  · rw [needs_eq]
    have hs : ∀ x ∈ l.map need, 0 ≤ x := fun x hx => by
      obtain ⟨t, ht, rfl⟩ := List.mem_map.1 hx
      exact (ih t ht).1
    have hsum : (l.map need).sum ≤ tsizes l := by
      clear hs
      induction l with
      | nil => simp [tsizes]
      | cons t r ihr =>
        have := ih t (by simp)
        have := ihr (fun t ht => ih t (by simp [ht]))
        simp [tsizes]; omega
    have := needF_bounds _ hs
    omega

theorem tsize_mem : ∀ {l : List Tree} {t : Tree}, t ∈ l → tsize t ≤ tsizes l
  | x :: r, t, h => by
    rcases List.mem_cons.1 h with rfl | h
    · rw [tsizes]; omega
    · have := tsize_mem h; rw [tsizes]; omega
theorem tsize_pos (t : Tree) : 1 ≤ tsize t := by cases t; rw [tsize]; omega
theorem tsizes_len : ∀ l : List Tree, l.length ≤ tsizes l
  | [] => by simp [tsizes]
  | t :: r => by have := tsizes_len r; have := tsize_pos t; simp [tsizes]; omega

theorem midInts_ints : ∀ l : List Int, (∀ x ∈ l, 0 ≤ x ∧ x ≤ 1000000) → midInts (ints l) = some l
  | [], _ => rfl
  | x :: r, h => by
    have := midInts_ints r (fun x hx => h x (by simp [hx]))
    simp only [ints, List.map_cons, midInts] at this ⊢
    rw [if_pos (h x (by simp)), this]; rfl

theorem load_arr {k : K} (hP : k.P = Tryz.prog) {S : St} {b : Nat} {l : List Int} (hb : S.get b = .arr 1 (ints l)) (i : Nat) (hi : i < l.length) : loadE k 3 (.ptr b (i * 1)) S = some (.v (.int .i64 l[i])) := by
  simp only [loadE, agg_int hP Tryz.underlying3, size_of hP size3, Option.bind_some, hb, objCells, takeVal, Bool.false_eq_true, if_false, Nat.mul_one]
  rw [List.head?_drop]
  simp [ints, hi]

theorem tree_w1 (t : Tree) : weak (shut (.agg t.cells)) = .agg t.cells := tree_ws t

set_option maxHeartbeats 1000000 in
theorem need_spec : ∀ t : Tree, tsize t ≤ 3000 → ∀ (x : SV), weak (shut x) = .agg t.cells → ∀ S : St, run k1 (.func 36 [] []) [x] S = some (.v (.int .i64 (need t)), S) := by
  apply Tree.ind (P := fun t => tsize t ≤ 3000 → ∀ (x : SV), weak (shut x) = .agg t.cells → ∀ S : St, run k1 (.func 36 [] []) [x] S = some (.v (.int .i64 (need t)), S))
  intro a k ty op off l ih hsz x hx S
  rw [tsize] at hsz
  suffices ∃ S', cBody (k1.at 36) h36k1 (run k1) 4000 (compF Tryz.f36) [.agg (Tree.mk a k ty op off l).t37.enc] St0 = some (.v (.int .i64 (need (.mk a k ty op off l))), S') by
    obtain ⟨S', h⟩ := this
    exact go_closed ks_k1 (f := 36) (fst := []) (cap := []) (S := S) h36k1 4000 rfl (fn_k1 36 fn36) rfl (z := (.v (.int .i64 (need (.mk a k ty op off l))), S')) (by
      simp only [List.nil_append, List.append_nil, List.map_cons, List.map_nil, hx]
      exact h)
  clear hx x
  rw [tell36k1]
  simp only [splitB_if, t37_kind, t37_tmp, t37_l, Tree.kind, Tree.a, Tree.l]
  rw [need]
  by_cases hk : k = 0
  · rw [if_pos (by simpa using hk), if_pos hk]
    by_cases ha : a.tmp < 0
    · exact ⟨St0, by rw [if_pos (by simpa using ha), if_pos ha]⟩
    · exact ⟨St0, by rw [if_neg (by simpa using ha), if_neg ha]⟩
  · rw [if_neg (by simpa using hk), if_neg hk]
    have hlen := tsizes_len l
    obtain ⟨y, S1, h1, hf, hn, hm⟩ := mapped_spec (.func 36 [] []) need l (by omega) (fun t ht S => ih t ht (by have := tsize_mem ht; omega) _ (tree_ws t) S) ⟨_, _, _, rfl⟩ St0 (Nat.le_refl _)
    rw [h1]
    simp only [Option.bind_some]
    have hnn : ∀ x ∈ l.map need, 0 ≤ x ∧ x ≤ 3000 := fun x hx => by
      obtain ⟨t, ht, rfl⟩ := List.mem_map.1 hx
      have := need_bound t
      have := tsize_mem ht
      omega
    rw [needs_eq]
    rcases hm with ⟨hl0, rfl⟩ | ⟨b, rfl, hb, hbn, hbf⟩
    · rw [hl0]
      have hsort : run k1 (.func 92 [] []) [.v (.slice none 0 0), .func 93 [] []] S1 = some (.tuple [], S1) := by
        rw [run_prim (p := sortP) rfl]; rfl
      rw [hsort]
      simp only [Option.bind_some]
      have hlen0 : lenE (k1.at 36) 22 (.v (.slice none 0 0)) = some (.v (.int .i64 0)) := by simp [lenE, elem_of (P_k1 36) Tryz.underlying22]
      rw [hlen0]
      simp only [Option.bind_some, openInt_v]
      generalize hF : (fun vs0 S1 => _ : List SV → St → Option (Ex × List SV × St)) = F
      rw [show (4000 : Nat) = 3999 + 1 from rfl, iter_exit (F := F) (i := 0) (vs' := [.v (.int .i64 1), .v (.int .i64 0)]) (S' := S1) (by
        rw [← hF]; simp only [openHd_v, openInt_v, splitB_if]; rw [if_neg (by simp)])]
      exact ⟨S1, by simp only [Option.bind_some, openHd_v, openInt_v, exits_exit, if_true]; rfl⟩
    · have hfl : S1.floor = 0 := hf
      have hsort : run k1 (.func 92 [] []) [.arr b (l.map need).length, .func 93 [] []] S1 = some (.tuple [], S1.put b (.arr 1 (ints (sortD (l.map need))))) := by
        rw [run_prim (p := sortP) rfl]
        simp only [List.nil_append, List.append_nil, sortP, hb]
        rw [if_pos ⟨by omega, by simp [ints], by simp; omega⟩, midInts_ints _ (fun x hx => by have := hnn x hx; omega)]
        rfl
      rw [hsort]
      simp only [Option.bind_some]
      have hln : lenE (k1.at 36) 22 (.arr b (l.map need).length) = some (.v (.int .i64 ((l.map need).length : Int))) := by simp [lenE, elem_of (P_k1 36) Tryz.underlying22]
      rw [hln]
      simp only [Option.bind_some, openInt_v]
      have hget : (S1.put b (.arr 1 (ints (sortD (l.map need))))).get b = .arr 1 (ints (sortD (l.map need))) := by simp [St.put]
      have hsl : (sortD (l.map need)).length = (l.map need).length := (sortD_perm _).length_eq
      have hll : (l.map need).length ≤ 3000 := by simp; omega
      have hsn : ∀ x ∈ sortD (l.map need), 0 ≤ x ∧ x ≤ 3000 := fun x hx => hnn x ((sortD_perm _).mem_iff.1 hx)
      generalize S1.put b (.arr 1 (ints (sortD (l.map need)))) = S2 at hget
      rw [needF]
      generalize hns : sortD (l.map need) = ns at hget hsl hsn
      generalize (l.map need).length = n at hsl hll
      clear h1 hsort hln hnn hb hns
      generalize hF : (fun vs0 S1 => _ : List SV → St → Option (Ex × List SV × St)) = F
      have loop : ∀ (suf pre : List Int), ns = pre ++ suf → ∀ (M : Nat) (out : Int), suf.length < M → 1 ≤ out → out ≤ 10000 →
          iter F M [.v (.int .i64 out), .v (.int .i64 (pre.length : Int))] S2 = some (.exit 0, [.v (.int .i64 (needGo suf pre.length out)), .v (.int .i64 (n : Int))], S2) := by
        intro suf
        induction suf with
        | nil =>
          intro pre hp M out hM h1 h2
          obtain ⟨M, rfl⟩ : ∃ m, M = m + 1 := ⟨M - 1, by omega⟩
          have hpn : pre.length = n := by rw [← hsl, hp]; simp
          rw [iter_exit (F := F) (i := 0) (vs' := [.v (.int .i64 out), .v (.int .i64 (pre.length : Int))]) (S' := S2) (by
            rw [← hF]; simp only [openHd_v, openInt_v, splitB_if]; rw [if_neg (by simp; omega)])]
          rw [hpn]; rfl
        | cons x r ihr =>
          intro pre hp M out hM h1 h2
          obtain ⟨M, rfl⟩ : ∃ m, M = m + 1 := ⟨M - 1, by omega⟩
          have hpl : pre.length < ns.length := by rw [hp]; simp
          have hx : ns[pre.length] = x := by simp [hp]
          have hx3 := hsn x (by rw [hp]; simp)
          have hidx : indexAddrE (k1.at 36) 22 (.arr b n) (.v (.int .i64 (pre.length : Int))) = some (.ptr b (pre.length * 1)) := by
            simp only [indexAddrE, P_k1, Tryz.underlying22, size_of (P_k1 36) size3, Option.bind_some]
            rw [if_pos ⟨by omega, by omega⟩]
            simp
          have hw : IntKind.wrap .i64 (x + (pre.length : Int)) = x + pre.length := wrap_in (by omega) (by omega)
          rw [needGo]
          have step : iter F (M + 1) [.v (.int .i64 out), .v (.int .i64 (pre.length : Int))] S2 = iter F M [.v (.int .i64 (if x > 0 then (if x + pre.length > out then x + pre.length else out) else out)), .v (.int .i64 ((pre.length : Int) + 1))] S2 := by
            refine iter_normal (F := F) ?_
            rw [← hF]
            simp only [openHd_v, openInt_v, splitB_if]
            rw [if_pos (by simp; omega), hidx]
            simp only [Option.bind_some]
            rw [load_arr (P_k1 36) hget pre.length hpl, hx]
            simp only [Option.bind_some, openInt_v]
            rw [wrap_in (a := (pre.length : Int) + 1) (by omega) (by omega), hw]
            by_cases hx0 : x > 0
            · rw [if_pos (by simpa using hx0), if_pos hx0]
            · rw [if_neg (by simpa using hx0), if_neg hx0]
          rw [step]
          have := ihr (pre ++ [x]) (by rw [hp]; simp) M (if x > 0 then (if x + pre.length > out then x + pre.length else out) else out) (by simp at hM; omega) (by split <;> (try split) <;> omega) (by split <;> (try split) <;> omega)
          have e : ((pre ++ [x]).length : Int) = (pre.length : Int) + 1 := by simp
          rw [e, show (pre ++ [x]).length = pre.length + 1 by simp] at this
          exact this
      have h0 := loop ns [] rfl 4000 1 (by omega) (by omega) (by omega)
      have h0 : iter F 4000 [.v (.int .i64 1), .v (.int .i64 0)] S2 = _ := h0
      rw [h0]
      exact ⟨S2, by simp only [Option.bind_some, openHd_v, openInt_v, exits_exit, if_true]; rfl⟩
end Go.Sv
