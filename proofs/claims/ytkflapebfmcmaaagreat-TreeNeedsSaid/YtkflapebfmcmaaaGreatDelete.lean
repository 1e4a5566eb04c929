/- A part of the proofs of this seat's laws: an interpreter of the program's form, its soundness against the model, or what it answers on this program. -/
import Derived.Test.YtkflapebfmcmaaaGreatKs
import Derived.Deep.RegionLaw
import Derived.Shelf.RegionOpenPlain
import Derived.WalkKit
import Derived.Deep.LoopGhost
import Derived.Lib.Walk
import Derived.Lib.SliceRun
import Derived.Lib.ReflectliteSwap
namespace Go.Proofs.YtkflapebfmcmaaaGreat
open Go Go.Sv Go.RowKit
set_option linter.all false
set_option maxRecDepth 100000

/-- The cells of a waiting of zeroes. -/
def zw : List Value := [.int .i64 0, .int .i64 0, .int .i64 0, .int .u32 0, .int .u32 0, .int .u32 0, .int .u32 0, .int .i64 0, .int .i64 0, .int .i64 0, .int .i64 0, .slice none 0 0]

theorem zw_one : ∀ v ∈ zw, v.oneCell' = true := by decide

theorem clear_wait (w : World) (ty : TypeId) (b o n c : Nat) (hn : n = 1) (hc : ∀ j, j < 12 → (w.cell? ⟨b, o + j, none⟩).isSome = true) (hf : ∀ j, j < 12 → w.frozen? ⟨b, o + j, none⟩ = false) :
    (Builtin.clear_ #[90] ty #[.slice (some ⟨b, o, none⟩) n c]).run Tryz.prog w = .ok (.tuple #[]) (w.setCells b o zw) := by
  subst hn
  have hzc : (Builtin.zeroCells (Value.agg zw.toArray).cells 1).toList = zw := by kernel_rfl
  have hst := run_storeCells_cells (P := Tryz.prog) b o zw 0 w (by simpa [zw] using hc) (by simpa [zw] using hf) zw_one
  simp only [Nat.add_zero] at hst
  have hv : ∀ w, (zeroValue 98).run Tryz.prog w = .ok (.agg zw.toArray) w := Tryz.zeroValue98
  simp [Builtin.clear_, run_underlying Tryz.underlying90, hv, hzc, hst]

set_option maxHeartbeats 4000000 in
set_option maxRecDepth 1000000 in
theorem delete_calls (blk off cap n i j : Nat) (vals : Nat → Value) (w : World) (hH : ∀ k, k < n * 12 → w.cell? ⟨blk, off + k, none⟩ = some (vals k) ∧ w.frozen? ⟨blk, off + k, none⟩ = false) (h1 : ∀ k, k < n * 12 → (vals k).oneCell' = true)
    (hcap : n ≤ cap) (hm : n ≤ 1000000) (hij : i < j) (hjn : j ≤ n) (hj1 : Hid (j = i + 1)) :
    Calls Tryz.prog 125 #[.slice (some ⟨blk, off, none⟩) n cap, .int .i64 i, .int .i64 (j : Int)] w fun e w' => e = .returned (.slice (some ⟨blk, off, none⟩) (n - 1) cap) ∧
      w' = (w.drew.setCells blk (off + i * 12) ((List.range ((n - j) * 12)).map fun t => vals (j * 12 + t))).setCells blk (off + (n - 1) * 12) zw := by
  have hj2 := hj1.out
  have hi : i < n := by omega
  obtain ⟨news, hnews⟩ : ∃ news, news = (List.range ((n - j) * 12)).map fun t => vals (j * 12 + t) := ⟨_, rfl⟩
  rw [← hnews]
  have hlen : news.length = (n - j) * 12 := by rw [hnews]; simp
  have hget : ∀ t, t < (n - j) * 12 → news[t]? = some (vals (j * 12 + t)) := by
    intro t ht
    rw [hnews, List.getElem?_map, List.getElem?_range ht]; rfl
  obtain ⟨A, hA, hsrc⟩ : ∃ A : Addr, (if cap = j then some (⟨blk, off, none⟩ : Addr) else some ⟨blk, off + j * 12, none⟩) = some A ∧ Hid (∀ t u, news[t]? = some u → w.drew.cell? (A.add t) = some u) := by
    by_cases h : cap = j
    · refine ⟨⟨blk, off, none⟩, by simp [h], fun t u hu => ?_⟩
      have h0 : news.length = 0 := by rw [hlen]; omega
      rw [List.length_eq_zero_iff.1 h0] at hu
      simp at hu
    · refine ⟨⟨blk, off + j * 12, none⟩, by simp [h], fun t u hu => ?_⟩
      have ht : t < (n - j) * 12 := by
        have := (List.getElem?_eq_some_iff.1 hu).1
        rwa [hlen] at this
      rw [hget t ht] at hu
      rw [Addr.add_lit, show off + j * 12 + t = off + (j * 12 + t) by omega]
      exact (hH (j * 12 + t) (by omega)).1.trans hu
  have s1 : Hid (news.length = (n - j) * 12) := hlen
  have s2 : Hid (∀ u ∈ news, u.oneCell' = true) := by
    intro u hu
    rw [hnews, List.mem_map] at hu
    obtain ⟨t, ht, rfl⟩ := hu
    have := List.mem_range.1 ht
    exact h1 _ (by omega)
  have s3 : Hid (∀ t, t < news.length → (w.drew.cell? ⟨blk, off + i * 12 + t, none⟩).isSome = true ∧ w.drew.frozen? ⟨blk, off + i * 12 + t, none⟩ = false) := by
    intro t ht
    rw [hlen] at ht
    rw [Nat.add_assoc]
    exact ⟨by show (w.cell? _).isSome = true; rw [(hH (i * 12 + t) (by omega)).1]; rfl, (hH (i * 12 + t) (by omega)).2⟩
  obtain ⟨W1, hW1⟩ : ∃ W1, W1 = w.drew.setCells blk (off + i * 12) news := ⟨_, rfl⟩
  have hcl : ∀ ty, (Builtin.clear_ #[90] ty #[.slice (some ⟨blk, off + (i + (n - j)) * 12, none⟩) (n - (i + (n - j))) (cap - (i + (n - j)))]).run Tryz.prog W1 = .ok (.tuple #[]) (W1.setCells blk (off + (i + (n - j)) * 12) zw) :=
    fun ty => clear_wait W1 ty blk _ _ _ (by omega) (fun t ht => by
      rw [hW1, Nat.add_assoc]
      refine Go.Lib.isSome_setCells blk _ _ _ _ ?_
      show (w.cell? _).isSome = true
      rw [(hH _ (by omega)).1]; rfl) (fun t ht => by
      rw [hW1, Nat.add_assoc, World.frozen?_setCells]
      exact (hH _ (by omega)).2)
  have hW : Hid (W1 = w.drew.setCells blk (off + i * 12) news) := hW1
  have hic : i ≤ cap := by omega
  have hjc : j ≤ cap := by omega
  have hfin : Hid (i + (n - j) = n - 1) := by show _ = _; omega
  rw [← hW1]
  rw [show n - 1 = i + (n - j) by omega]
  clear hj2 hW1 hH hget hnews hlen h1
  have mixed : Tryz.prog.follows .mixedOrders = true := by kernel_rfl
  have hi0 : Tryz.prog.info? 98 = some Tryz.t98 := by kernel_rfl
  have hz1 : Tryz.t98.size = 12 := by kernel_rfl
  have a90 := Tryz.isAgg90
  have z90 := Tryz.sizeOf90
  have v90 := Tryz.zeroValue90
  have t90 := Tryz.underlying90
  have a98 := Tryz.isAgg98
  have z98 := Tryz.sizeOf98
  have a3 := Tryz.isAgg3
  have t3 := Tryz.underlying3
  have z3 := Tryz.sizeOf3
  have v3 := Tryz.zeroValue3
  have a4 := Tryz.isAgg4
  have t4 := Tryz.underlying4
  have z4 := Tryz.sizeOf4
  have v4 := Tryz.zeroValue4
  go_enter Tryz.func125, Tryz.ntmps125
  go_wp2_with fail
  go_region_law_o (refine step_append_room rfl (.tmp 22) (.tmp 25) 90 rfl 98 Tryz.t98 12 t90 hi0 hz1 blk off i cap (by simp [Act.eval, Act.put]) A (n - j) (cap - j) news (by simp [Act.eval, Act.put]) s1.out hsrc.out s2.out (by omega) s3.out ?_; rw [← hW.out])
  go_wp2
  go_ret
  exact ⟨rfl, rfl⟩

def putL : Array Value → Nat → List Value → Array Value
  | a, _, [] => a
  | a, o, v :: r => putL (a.setIfInBounds o v) (o + 1) r
theorem putL_size : ∀ (vs : List Value) (a : Array Value) (o : Nat), (putL a o vs).size = a.size
  | [], _, _ => rfl
  | v :: r, a, o => by rw [putL, putL_size r]; simp
theorem putL_get (j : Nat) : ∀ (vs : List Value) (a : Array Value) (o : Nat), j < a.size → (putL a o vs).getD j undef = if o ≤ j ∧ j < o + vs.length then vs.getD (j - o) undef else a.getD j undef
  | [], a, o, _ => by rw [putL, if_neg (by simp only [List.length_nil]; omega)]
  | v :: r, a, o, h => by
    rw [putL, putL_get j r _ _ (by simpa using h)]
    by_cases h1 : o + 1 ≤ j ∧ j < o + 1 + r.length
    · rw [if_pos h1, if_pos (by simp only [List.length_cons]; omega)]
      obtain ⟨t, rfl⟩ : ∃ t, j = o + 1 + t := ⟨j - (o + 1), by omega⟩
      rw [show o + 1 + t - (o + 1) = t by omega, show o + 1 + t - o = t + 1 by omega]
      simp
    · rw [if_neg h1]
      by_cases h2 : o = j
      · subst h2
        rw [if_pos (by simp only [List.length_cons]; omega)]
        simp [Array.getD, h]
      · rw [if_neg (by simp only [List.length_cons]; omega)]
        simp [Array.getD, h, Array.getElem_setIfInBounds, h2]

theorem sets_at (b : Nat) {T : TypeId} : ∀ (vs : List Value) (o : Nat) (w : World) (a : Array Value), w.heap[b]? = some (.cells a T (0, 0)) → (w.setCells b o vs).heap[b]? = some (.cells (putL a o vs) T (0, 0))
  | [], _, _, _, h => h
  | v :: r, o, w, a, h => sets_at b r (o + 1) _ _ (by show (w.heap.modify b _)[b]? = _; rw [Array.getElem?_modify, if_pos rfl, h]; rfl)
theorem only_trans {w w' w'' : World} {b : Nat} (h : Only w w' b) (k : Only w' w'' b) : Only w w'' b :=
  ⟨k.os.trans h.os, k.tape.trans h.tape, k.output.trans h.output, Nat.le_trans h.size k.size, fun x hx hne => (k.block x (Nat.lt_of_lt_of_le hx h.size) hne).trans (h.block x hx hne)⟩
theorem sets_only (b : Nat) : ∀ (vs : List Value) (o : Nat) (w : World), Only w (w.setCells b o vs) b
  | [], _, w => ⟨rfl, rfl, rfl, Nat.le_refl _, fun _ _ _ => rfl⟩
  | v :: r, o, w => only_trans (w' := w.setCell ⟨b, o, none⟩ v) ⟨rfl, rfl, rfl, by simp [World.setCell], fun k hk hne => by show (w.heap.modify b _)[k]? = _; rw [Array.getElem?_modify, if_neg (fun e => hne (Eq.symm e))]⟩ (sets_only b r (o + 1) _)

theorem delete_ok : PrimOK Tryz.prog 125 (delete 12) := by
  refine prim_of_calls ⟨_, _, Tryz.func125, by kernel_rfl, rfl⟩ ?_
  intro w0 g S w us args x S' hp hG ha
  unfold delete at hp
  split at hp
  case h_2 => cases hp
  rename_i b n i j
  split at hp
  case h_2 => cases hp
  rename_i s cs hget
  split at hp
  case isFalse => cases hp
  rename_i hc
  obtain ⟨rfl, hfl, hi0, rfl, hjn, hn6, hlen⟩ := hc
  simp only [Option.some.injEq, Prod.mk.injEq] at hp
  obtain ⟨rfl, rfl⟩ := hp
  obtain ⟨i, rfl⟩ : ∃ m : Nat, i = m := ⟨i.toNat, by omega⟩
  rw [show ((i : Int) + 1).toNat = i + 1 by omega, Int.toNat_natCast]
  have hjn : i + 1 ≤ n := by omega
  obtain ⟨hal, har⟩ := ha
  obtain ⟨usl⟩ := us
  match usl, hal with
  | [u, v1, v2], _ =>
  have hu : R g w u (.arr b n) := by simpa using har 0 _ rfl
  have e1 : v1 = .int .i64 i := by
    have : R g w v1 (.v (.int .i64 i)) := by simpa using har 1 _ rfl
    cases this; rfl
  have e2 : v2 = .int .i64 ((i + 1 : Nat) : Int) := by
    have : R g w v2 (.v (.int .i64 ((i : Int) + 1))) := by simpa using har 2 _ rfl
    cases this; simp
  subst e1 e2
  cases hu with
  | arr _ _ hb hn =>
  have hOb := hG.obj b hb
  rw [hget] at hOb
  obtain ⟨a, T, h1, h2, h3, h4, h5⟩ := hOb
  have hn12 : n * 12 ≤ a.size := by rw [h2]; omega
  have hcalls := delete_calls (g.box b) 0 (g.cap b) n i (i + 1) (fun k => a.getD k undef) w (fun k hk => by
    have hk' : k < a.size := by omega
    refine ⟨?_, by simp [World.frozen?, h1]⟩
    simp only [World.cell?, h1, Nat.zero_add, Option.isSome_none, Bool.false_eq_true, if_false]
    simp [Array.getD, hk']) (fun k hk => by
    have hk' : k < cs.length := by omega
    exact (h4 k cs[k] (List.getElem?_eq_getElem hk')).2) hn hn6 (Nat.lt_succ_self i) hjn rfl
  refine hcalls.mono fun e w' ⟨he, hw⟩ => ⟨_, he, ?_⟩
  generalize hnews : ((List.range ((n - (i + 1)) * 12)).map fun t => a.getD ((i + 1) * 12 + t) undef) = news at hw
  have hnl : news.length = (n - (i + 1)) * 12 := by rw [← hnews]; simp
  have hng : ∀ t, t < (n - (i + 1)) * 12 → news.getD t undef = a.getD ((i + 1) * 12 + t) undef := by
    intro t ht
    rw [← hnews, List.getD, List.getElem?_map, List.getElem?_range ht]; rfl
  have hat : w'.heap[g.box b]? = some (.cells (putL (putL a (0 + i * 12) news) (0 + (n - 1) * 12) zw) T (0, 0)) := by
    subst hw
    exact sets_at _ _ _ _ _ (sets_at _ _ _ _ _ h1)
  have hO : Sv.Only w w' (g.box b) := by
    subst hw
    exact only_trans (only_trans (w' := w.drew) ⟨rfl, rfl, rfl, Nat.le_refl _, fun _ _ _ => rfl⟩ (sets_only _ _ _ _)) (sets_only _ _ _ _)
  have hext : Ext g w g w' := by
    refine ⟨rfl, Nat.le_refl _, fun _ _ => rfl, fun _ _ => rfl, fun _ => Nat.le_refl _, fun X i hX => ?_⟩
    refine cell_block (hO.block X (hG.use_lt hX) ?_)
    intro e
    subst e
    omega
  have hR : ObjR g w' b (.arr 12 (cs.take (i * 12) ++ cs.drop ((i + 1) * 12))) := by
    refine ⟨_, T, hat, by rw [putL_size, putL_size, h2], by rw [putL_size, putL_size]; simp; omega, fun k c hk => ?_, h5⟩
    have hkl : k < (n - 1) * 12 := by
      have := (List.getElem?_eq_some_iff.1 hk).1
      simp at this
      omega
    have hka : k < a.size := by omega
    rw [putL_get _ _ _ _ (by rw [putL_size]; exact hka), if_neg (by omega), putL_get _ _ _ _ hka]
    by_cases hki : k < i * 12
    · rw [if_neg (by omega)]
      rw [List.getElem?_append_left (by simp; omega), List.getElem?_take_of_lt hki] at hk
      exact ⟨(h4 k c hk).1.ext hext, (h4 k c hk).2⟩
    · rw [if_pos (by rw [hnl]; omega), hng _ (by omega)]
      rw [List.getElem?_append_right (by simp; omega), List.getElem?_drop] at hk
      have hk2 : (i + 1) * 12 + (k - (List.take (i * 12) cs).length) = (i + 1) * 12 + (k - (0 + i * 12)) := by simp; omega
      rw [hk2] at hk
      exact ⟨(h4 _ c hk).1.ext hext, (h4 _ c hk).2⟩
  obtain ⟨G1, T1⟩ := hG.put hb (by rw [hget]; trivial) hfl hO h5 _ hR
  exact ⟨g, .arr b (n - 1) hb (by omega), G1, T1⟩
end Go.Proofs.YtkflapebfmcmaaaGreat
