/- A part of the proofs of this seat's laws: an interpreter of the program's form, its soundness against the model, or what it answers on this program. -/
import Derived.Test.YtkflapebfmcmaaaGreatKs
import Derived.Shelf.SlIterI.Nil
import Derived.Shelf.SlIterI.Sorted
import Derived.Shelf.SortM.Plain
import Derived.Shelf.SortM.SortNone
import Derived.Shelf.SlGeneric
import Derived.Ground.GgzProg
import Derived.Ground.SlgmProg
namespace Go.Proofs
open Go.RowKit Go.Maps Go.Sort Go.Shelf
def Tryz.keysA_ren : Go.Shelf.Ren := ⟨fun | 7 => 171 | 10 => 206 | n => n, fun | 23 => 140 | 26 => 3 | 3 => 4 | 28 => 197 | 0 => 0 | 27 => 196 | 33 => 156 | 4 => 4 | n => n, fun | n => n⟩
theorem Tryz.keysA : Go.Proofs.SlLaysZI.n7 Tryz.prog Tryz.keysA_ren := {
  mixed := by kernel_rfl
  f7 := ⟨Tryz.f171.name, by kernel_rfl, Tryz.func171.trans (congrArg some (by kernel_rfl))⟩
  f10 := ⟨Tryz.f206.name, by kernel_rfl, Tryz.func206.trans (congrArg some (by kernel_rfl))⟩
  t0 := Tryz.underlying0
  a0 := Tryz.isAgg0
  z0 := Tryz.sizeOf0
  v0 := Tryz.zeroValue0
  t4 := Tryz.underlying4
  a4 := Tryz.isAgg4
  z4 := Tryz.sizeOf4
  v4 := Tryz.zeroValue4
  t23 := Tryz.underlying140
  a23 := Tryz.isAgg140
  z23 := Tryz.sizeOf140
  v23 := Tryz.zeroValue140
  t26 := Tryz.underlying3
  a26 := Tryz.isAgg3
  z26 := Tryz.sizeOf3
  v26 := Tryz.zeroValue3
  t27 := Tryz.underlying196
  a27 := Tryz.isAgg196
  z27 := Tryz.sizeOf196
  v27 := Tryz.zeroValue196
  t28 := Tryz.underlying197
  a28 := Tryz.isAgg197
  z28 := Tryz.sizeOf197
  v28 := Tryz.zeroValue197
  t33 := Tryz.underlying156
  a33 := Tryz.isAgg156
  z33 := Tryz.sizeOf156
  v33 := Tryz.zeroValue156 }
def Tryz.sortedA_ren : Go.Shelf.Ren := ⟨fun | 6 => 170 | 8 => 204 | 9 => 205 | 11 => 212 | 13 => 143 | 12 => 213 | 23 => 190 | 24 => 191 | 14 => 215 | 15 => 216 | 16 => 217 | 17 => 218 | 18 => 219 | 19 => 220 | 20 => 221 | 21 => 222 | 22 => 223 | 25 => 224 | 26 => 208 | 27 => 209 | 28 => 225 | 29 => 226 | 30 => 227 | 31 => 228 | n => n, fun | 26 => 3 | 28 => 197 | 24 => 22 | 0 => 0 | 3 => 3 | 37 => 182 | 48 => 24 | 50 => 199 | 4 => 4 | 40 => 206 | 39 => 205 | 45 => 210 | 5 => 5 | 9 => 9 | 51 => 225 | 55 => 229 | 57 => 233 | 58 => 85 | 33 => 156 | n => n, fun | n => n⟩
theorem Tryz.sortedA : Go.Proofs.SlLaysZI.n6 Tryz.prog Tryz.sortedA_ren := {
  mixed := by kernel_rfl
  f6 := ⟨Tryz.f170.name, by kernel_rfl, Tryz.func170.trans (congrArg some (by kernel_rfl))⟩
  f8 := ⟨Tryz.f204.name, by kernel_rfl, Tryz.func204.trans (congrArg some (by kernel_rfl))⟩
  f11 := ⟨Tryz.f212.name, by kernel_rfl, Tryz.func212.trans (congrArg some (by kernel_rfl))⟩
  t0 := Tryz.underlying0
  a0 := Tryz.isAgg0
  z0 := Tryz.sizeOf0
  v0 := Tryz.zeroValue0
  t24 := Tryz.underlying22
  a24 := Tryz.isAgg22
  z24 := Tryz.sizeOf22
  v24 := Tryz.zeroValue22
  t26 := Tryz.underlying3
  a26 := Tryz.isAgg3
  z26 := Tryz.sizeOf3
  v26 := Tryz.zeroValue3
  t28 := Tryz.underlying197
  a28 := Tryz.isAgg197
  z28 := Tryz.sizeOf197
  v28 := Tryz.zeroValue197
  i26 := by kernel_rfl }
def Tryz.sortA_ren : Go.Shelf.Ren := ⟨fun | 5 => 205 | 8 => 143 | 7 => 213 | 19 => 190 | 20 => 191 | 10 => 215 | 11 => 216 | 12 => 217 | 13 => 218 | 14 => 219 | 15 => 220 | 16 => 221 | 17 => 222 | 18 => 223 | 30 => 224 | 31 => 208 | 32 => 209 | 33 => 225 | 34 => 226 | 35 => 227 | 40 => 228 | n => n, fun | 23 => 22 | 25 => 3 | 3 => 3 | 32 => 182 | 22 => 22 | 0 => 0 | 44 => 24 | 46 => 199 | 4 => 4 | 36 => 206 | 35 => 205 | 41 => 210 | 5 => 5 | 9 => 9 | 53 => 225 | 57 => 229 | 63 => 233 | 64 => 85 | n => n, fun | n => n⟩
theorem Tryz.sortA : Go.Proofs.SlLaysM.n5 Tryz.prog Tryz.sortA_ren := {
  mixed := by kernel_rfl
  f5 := ⟨Tryz.f205.name, by kernel_rfl, Tryz.func205.trans (congrArg some (by kernel_rfl))⟩
  f7 := ⟨Tryz.f213.name, by kernel_rfl, Tryz.func213.trans (congrArg some (by kernel_rfl))⟩
  f8 := Tryz.func143.trans (congrArg some (by kernel_rfl))
  f10 := ⟨Tryz.f215.name, by kernel_rfl, Tryz.func215.trans (congrArg some (by kernel_rfl))⟩
  f11 := ⟨Tryz.f216.name, by kernel_rfl, Tryz.func216.trans (congrArg some (by kernel_rfl))⟩
  f12 := ⟨Tryz.f217.name, by kernel_rfl, Tryz.func217.trans (congrArg some (by kernel_rfl))⟩
  f13 := ⟨Tryz.f218.name, by kernel_rfl, Tryz.func218.trans (congrArg some (by kernel_rfl))⟩
  f14 := ⟨Tryz.f219.name, by kernel_rfl, Tryz.func219.trans (congrArg some (by kernel_rfl))⟩
  f15 := ⟨Tryz.f220.name, by kernel_rfl, Tryz.func220.trans (congrArg some (by kernel_rfl))⟩
  f16 := ⟨Tryz.f221.name, by kernel_rfl, Tryz.func221.trans (congrArg some (by kernel_rfl))⟩
  f17 := ⟨Tryz.f222.name, by kernel_rfl, Tryz.func222.trans (congrArg some (by kernel_rfl))⟩
  f18 := ⟨Tryz.f223.name, by kernel_rfl, Tryz.func223.trans (congrArg some (by kernel_rfl))⟩
  f19 := Tryz.func190.trans (congrArg some (by kernel_rfl))
  f20 := Tryz.func191.trans (congrArg some (by kernel_rfl))
  f30 := ⟨Tryz.f224.name, by kernel_rfl, Tryz.func224.trans (congrArg some (by kernel_rfl))⟩
  f31 := Tryz.func208.trans (congrArg some (by kernel_rfl))
  f32 := Tryz.func209.trans (congrArg some (by kernel_rfl))
  f33 := ⟨Tryz.f225.name, by kernel_rfl, Tryz.func225.trans (congrArg some (by kernel_rfl))⟩
  f34 := ⟨Tryz.f226.name, by kernel_rfl, Tryz.func226.trans (congrArg some (by kernel_rfl))⟩
  f35 := ⟨Tryz.f227.name, by kernel_rfl, Tryz.func227.trans (congrArg some (by kernel_rfl))⟩
  f40 := ⟨Tryz.f228.name, by kernel_rfl, Tryz.func228.trans (congrArg some (by kernel_rfl))⟩
  t0 := Tryz.underlying0
  a0 := Tryz.isAgg0
  z0 := Tryz.sizeOf0
  v0 := Tryz.zeroValue0
  t3 := Tryz.underlying3
  a3 := Tryz.isAgg3
  z3 := Tryz.sizeOf3
  v3 := Tryz.zeroValue3
  t4 := Tryz.underlying4
  a4 := Tryz.isAgg4
  z4 := Tryz.sizeOf4
  v4 := Tryz.zeroValue4
  t5 := Tryz.underlying5
  a5 := Tryz.isAgg5
  z5 := Tryz.sizeOf5
  v5 := Tryz.zeroValue5
  t9 := Tryz.underlying9
  a9 := Tryz.isAgg9
  z9 := Tryz.sizeOf9
  v9 := Tryz.zeroValue9
  t22 := Tryz.underlying22
  a22 := Tryz.isAgg22
  z22 := Tryz.sizeOf22
  v22 := Tryz.zeroValue22
  t23 := Tryz.underlying22
  a23 := Tryz.isAgg22
  z23 := Tryz.sizeOf22
  v23 := Tryz.zeroValue22
  t25 := Tryz.underlying3
  a25 := Tryz.isAgg3
  z25 := Tryz.sizeOf3
  v25 := Tryz.zeroValue3
  t32 := Tryz.underlying182
  a32 := Tryz.isAgg182
  z32 := Tryz.sizeOf182
  v32 := Tryz.zeroValue182
  t35 := Tryz.underlying205
  a35 := Tryz.isAgg205
  z35 := Tryz.sizeOf205
  v35 := Tryz.zeroValue205
  t36 := Tryz.underlying206
  a36 := Tryz.isAgg206
  z36 := Tryz.sizeOf206
  v36 := Tryz.zeroValue206
  t41 := Tryz.underlying210
  a41 := Tryz.isAgg210
  z41 := Tryz.sizeOf210
  v41 := Tryz.zeroValue210
  t44 := Tryz.underlying24
  a44 := Tryz.isAgg24
  z44 := Tryz.sizeOf24
  v44 := Tryz.zeroValue24
  t46 := Tryz.underlying199
  a46 := Tryz.isAgg199
  z46 := Tryz.sizeOf199
  v46 := Tryz.zeroValue199
  t53 := Tryz.underlying225
  a53 := Tryz.isAgg225
  z53 := Tryz.sizeOf225
  v53 := Tryz.zeroValue225
  t57 := Tryz.underlying229
  a57 := Tryz.isAgg229
  z57 := Tryz.sizeOf229
  v57 := Tryz.zeroValue229
  t63 := Tryz.underlying233
  a63 := Tryz.isAgg233
  z63 := Tryz.sizeOf233
  v63 := Tryz.zeroValue233
  t64 := Tryz.underlying85
  a64 := Tryz.isAgg85
  z64 := Tryz.sizeOf85
  v64 := Tryz.zeroValue85 }
end Go.Proofs
namespace Go.Proofs.YtkflapebfmcmaaaGreat
open Go Go.Sv Go.RowKit Go.Maps Go.Sort Go.Shelf
set_option linter.all false
set_option maxRecDepth 100000

theorem sortsA (m : Nat) : AnyZI.SortsIn Tryz.prog Tryz.sortedA_ren Fence.wide m :=
  ⟨fun blk off cap ss W hH hblk hsz => callsIn_wide.2 (AnyM.slices_Sort_int Tryz.sortA blk off cap ss W hH hblk hsz),
   fun p cap W => callsIn_wide.2 (AnyM.slices_Sort_int_none Tryz.sortA p cap W)⟩

/-- slices.Sorted of a map's keys, the map's box at hand. -/
theorem sorted_calls {H : Type} (Bm b nn : Nat) (D0 : DataW H) (R : Value → Option (DataW H × List MemPlace)) (w : World) (hBm : Bm < w.heap.size) (hm : w.cell? ⟨Bm, 0, none⟩ = some (.map (some b))) (hown : w.ownsMap Tryz.prog 3 R b nn D0) (hmax : Maps.size D0 ≤ maxLen) (hbytes : Maps.size D0 * 8 ≤ 140737488355328) :
    Calls Tryz.prog 170 #[.func (.func 206) #[] #[.pointer (some ⟨Bm, 0, none⟩)]] w fun e w' => ∃ (v : Value) (ss : List Int), e = .returned v ∧ ss.Perm (intKeys D0) ∧
      w'.ownsRow w.heap.size 3 1 v ss.length ((ss.mergeSort (fun x y => decide (x ≤ y))).map encZ) ∧ (v = .slice none 0 0 ↔ ss = []) ∧ Below w.heap.size w w' := by
  refine (callsIn_wide (n := 6)).1 ?_
  have hseq : SeqGives Fence.wide 3 Tryz.prog 206 #[.pointer (some ⟨Bm, 0, none⟩)] encZ (fun ss => ss.Perm (intKeys D0)) (Maps.size D0) w :=
    AnyZI.keys_gives (ρ := Tryz.keysA_ren) { Tryz.keysA with } Fence.wide _ trivial rfl (by omega) Bm b nn D0 w hBm hm hown
  exact AnyZI.sorted_in Tryz.sortedA Fence.wide 6 trivial trivial trivial trivial rfl (by omega) (sortsA _) (enters_of Tryz.func205 (by kernel_rfl) rfl) 206 #[.pointer (some ⟨Bm, 0, none⟩)] trivial (enters_of Tryz.func206 (by kernel_rfl) rfl) _ _ hmax hbytes _ hseq

theorem G.grown {w0 w w' : World} {g : Gh} {S : St} (hG : G w0 g S w) (hb : Below w.heap.size w w') : G w0 g S w' ∧ Tr S g w S g w' := by
  have hext : Ext g w g w' := ⟨rfl, Nat.le_refl _, fun _ _ => rfl, fun _ _ => rfl, fun _ => Nat.le_refl _, fun X i hX => cell_block (hb.block X (hG.use_lt hX))⟩
  have hold : ∀ b, b < g.n → (S.get b).live → w'.heap[g.box b]? = w.heap[g.box b]? := fun b hb' hl => hb.block _ (live_size (hG.obj b hb') hl)
  exact ⟨⟨hG.n, hG.floor, fun b hb' => (hG.obj b hb').ext hext hb' (fun hl => ⟨hold b hb' hl, rfl⟩), hG.lo, hG.ne, fun X hX => hG.fresh X (Nat.le_trans hb.size hX), Nat.le_trans hG.base hb.size, hG.below.trans (hb.mono hG.base)⟩, ⟨hext, rfl, Nat.le_refl _, fun _ _ => rfl, fun b hb' hl => ⟨hold b (by have := hG.n; have := hG.floor; omega) hl, rfl⟩, fun _ _ => rfl⟩⟩

theorem insI_perm (x : Int) : ∀ l : List Int, (insI x l).Perm (x :: l)
  | [] => .refl _
  | y :: r => by
    rw [insI]
    split
    · exact .refl _
    · exact ((insI_perm x r).cons y).trans (.swap x y r)
theorem sortI_perm : ∀ l : List Int, (sortI l).Perm l
  | [] => .refl _
  | x :: r => (insI_perm x _).trans ((sortI_perm r).cons x)
theorem insI_sorted (x : Int) : ∀ l : List Int, l.Pairwise (fun a b => a ≤ b) → (insI x l).Pairwise (fun a b => a ≤ b)
  | [], _ => by simp [insI]
  | y :: r, h => by
    rw [List.pairwise_cons] at h
    rw [insI]
    split
    · rename_i hyx
      rw [List.pairwise_cons]
      refine ⟨fun a ha => ?_, List.pairwise_cons.2 h⟩
      rcases List.mem_cons.1 ha with rfl | ha
      · exact hyx
      · have := h.1 a ha; omega
    · rename_i hyx
      rw [List.pairwise_cons]
      refine ⟨fun a ha => ?_, insI_sorted x r h.2⟩
      rcases List.mem_cons.1 ((insI_perm x r).mem_iff.1 ha) with rfl | ha
      · omega
      · exact h.1 a ha
theorem sortI_sorted : ∀ l : List Int, (sortI l).Pairwise (fun a b => a ≤ b)
  | [] => .nil
  | x :: r => insI_sorted x _ (sortI_sorted r)
theorem merge_sortI {ss l : List Int} (h : ss.Perm l) : ss.mergeSort (fun x y => decide (x ≤ y)) = sortI l := by
  refine List.Perm.eq_of_pairwise (le := fun a b : Int => a ≤ b) (fun a b _ _ h1 h2 => by omega) ?_ (sortI_sorted l) (((List.mergeSort_perm ss _).trans h).trans (sortI_perm l).symm)
  have := List.pairwise_mergeSort (le := fun x y : Int => decide (x ≤ y)) (fun a b c h1 h2 => by simp at *; omega) (fun a b => by simp; omega) ss
  exact this.imp fun {a b} h => by simpa using h

theorem keysI_get : ∀ {es : List (SV × SV)} {l : List Int}, keysI es = some l → l.length = es.length ∧ ∀ (i : Nat) (p : SV × SV), es[i]? = some p → ∃ x, p.1 = .v (.int .i64 x) ∧ l[i]? = some x ∧ 0 ≤ x ∧ x ≤ 1000000
  | [], l, h => by simp [keysI] at h; subst h; exact ⟨rfl, fun i p hi => by simp at hi⟩
  | (.v (.int .i64 x), e) :: r, l, h => by
    simp only [keysI] at h
    split at h
    · rename_i hx
      simp only [Option.map_eq_some_iff] at h
      obtain ⟨l', h1, rfl⟩ := h
      obtain ⟨h2, h3⟩ := keysI_get h1
      refine ⟨by simp [h2], fun i p hi => ?_⟩
      cases i with
      | zero => simp at hi; subst hi; exact ⟨x, rfl, by simp, hx⟩
      | succ i => simp at hi; obtain ⟨y, h4, h5, h6⟩ := h3 i p hi; exact ⟨y, h4, by simpa using h5, h6⟩
    · cases h

theorem sorted_ok : PrimOK Tryz.prog 170 sorted := by
  refine prim_of_calls ⟨_, _, Tryz.func170, by kernel_rfl, rfl⟩ ?_
  intro w0 g S w us args x S' hp hG ha
  unfold sorted at hp
  split at hp
  case h_2 => cases hp
  rename_i c
  split at hp
  case h_2 => cases hp
  rename_i b hgc
  split at hp
  case h_2 => cases hp
  rename_i es hgb
  split at hp
  case isFalse => cases hp
  rename_i hlen
  simp only [Option.map_eq_some_iff] at hp
  obtain ⟨l, hl, hp⟩ := hp
  obtain ⟨k1, k2⟩ := keysI_get hl
  -- the argument
  obtain ⟨hal, har⟩ := ha
  obtain ⟨usl⟩ := us
  match usl, hal with
  | [u], _ =>
  have hu : R g w u (.func 206 [] [.ptr c 0]) := by simpa using har 0 _ rfl
  cases hu with
  | func f fst cap fst' cap' h1 h2 h3 h4 =>
  have e1 : fst' = #[] := Array.eq_empty_of_size_eq_zero (by simpa using h1)
  subst e1
  obtain ⟨capl⟩ := cap'
  match capl, h3 with
  | [cv], _ =>
  have hcv : R g w cv (.ptr c 0) := by simpa using h4 0 _ rfl
  cases hcv with
  | ptr _ _ hc =>
  have hOc := hG.obj c hc
  rw [hgc] at hOc
  obtain ⟨a, T, q1, q2, q3, q4⟩ := hOc
  have hmv := (q3 0 (.map b) rfl).1
  generalize hmvv : a.getD 0 undef = mv at hmv
  cases hmv with
  | map _ hb =>
  have hcell : w.cell? ⟨g.box c, 0, none⟩ = some (.map (some (g.box b))) := by
    have h0 : 0 < a.size := by rw [q2]; simp
    simp only [World.cell?, q1, Option.isSome_none, Bool.false_eq_true, if_false]
    rw [Array.getElem?_eq_getElem h0]
    simpa [Array.getD, h0] using hmvv
  have hOb := hG.obj b hb
  rw [hgb] at hOb
  obtain ⟨r0, m, ck, r1, rst, r2, r3⟩ := hOb
  -- the map
  let RR : Value → Option (DataW Unit × List MemPlace) := fun _ => some (.nil, [])
  have key : ∀ i, i < m.size → ∃ y, (m.getD i default).key = .int .i64 y ∧ l[i]? = some y ∧ 0 ≤ y ∧ y ≤ 1000000 := by
    intro i hi
    have hie : i < es.length := by omega
    obtain ⟨⟨y, p1, p2⟩, _⟩ := r3 i es[i] (List.getElem?_eq_getElem hie)
    obtain ⟨z, z1, z2, z3⟩ := k2 i es[i] (List.getElem?_eq_getElem hie)
    rw [p1] at z1
    injection z1 with z1
    injection z1 with _ z1
    subst z1
    exact ⟨y, p2, z2, z3⟩
  have hrd : ∀ z ∈ m.toList, ∃ y : Int, WideElems.rd Tryz.prog 3 RR z = some (.int .i64 y, .nil) ∧ z.key = .int .i64 y := by
    intro z hz
    obtain ⟨i, hi, rfl⟩ := List.getElem_of_mem hz
    have him : i < m.size := by simpa using hi
    obtain ⟨y, y1, y2, y3, y4⟩ := key i him
    have y1' : (m[i]).key = .int .i64 y := by simpa [Array.getD, him] using y1
    refine ⟨y, ?_, by simpa using y1'⟩
    simp only [WideElems.rd, Array.getElem_toList, y1', RR]
    rw [keyOf_int_mk Tryz.underlying3 (by simp [Lit.wf, IntKind.min, IntKind.max, IntKind.signed, IntKind.bits]; omega)]
    rfl
  have hown : w.ownsMap Tryz.prog 3 RR (g.box b) m.size (.map ((m.toList.map (WideElems.rg Tryz.prog 3 RR)).foldr DataW.insert [])) :=
    ⟨m, ck, r1, ⟨by rw [r2]; simp only [maxLen]; omega, rst, fun z hz => by obtain ⟨y, hy, _⟩ := hrd z hz; exact ⟨_, hy⟩⟩, Nat.le_refl _, rfl⟩
  have hsize : Maps.size (.map ((m.toList.map (WideElems.rg Tryz.prog 3 RR)).foldr DataW.insert [])) = m.size := by
    show ((m.toList.map (WideElems.rg Tryz.prog 3 RR)).foldr DataW.insert []).length = m.size
    rw [(WideShapes.sorted_perm _).length_eq]; simp
  have hkeys : (intKeys (.map ((m.toList.map (WideElems.rg Tryz.prog 3 RR)).foldr DataW.insert []))).Perm l := by
    show (((m.toList.map (WideElems.rg Tryz.prog 3 RR)).foldr DataW.insert []).map fun p => Go.intOf p.1).Perm l
    refine ((WideShapes.sorted_perm _).map _).trans ?_
    rw [List.map_map]
    have : m.toList.map ((fun p : Lit × DataW Unit => Go.intOf p.1) ∘ WideElems.rg Tryz.prog 3 RR) = l := by
      apply List.ext_getElem?
      intro i
      rw [List.getElem?_map]
      by_cases hi : i < m.size
      · have hmem : m.toList[i]? = some m[i] := by simp [hi]
        rw [hmem, Option.map_some]
        obtain ⟨y, hy, hyk⟩ := hrd m[i] (by simp)
        obtain ⟨y', y1, y2, _⟩ := key i hi
        have y1' : (m[i]).key = .int .i64 y' := by simpa [Array.getD, hi] using y1
        rw [y1'] at hyk
        injection hyk with _ hyk
        subst hyk
        rw [y2]
        simp [WideElems.rg, hy, Go.intOf]
      · have h1 : m.toList[i]? = none := by simp; omega
        rw [h1, Option.map_none, List.getElem?_eq_none (by omega)]
    rw [this]
  have hcalls := sorted_calls (g.box c) (g.box b) m.size _ RR w (Array.getElem?_eq_some_iff.1 q1).1 hcell hown (by rw [hsize, r2]; simp only [maxLen]; omega) (by rw [hsize, r2]; omega)
  refine hcalls.mono fun e w' ⟨v, ss, he, hss, hrow, hnil, hbel⟩ => ⟨v, he, ?_⟩
  have hperm := hss.trans hkeys
  rw [merge_sortI hperm, hperm.length_eq] at hrow
  split at hp
  · rename_i hl0
    simp only [Prod.mk.injEq] at hp
    obtain ⟨rfl, rfl⟩ := hp
    have : ss = [] := List.eq_nil_of_length_eq_zero (by rw [hperm.length_eq, hl0])
    rw [hnil.2 this]
    obtain ⟨G1, T1⟩ := G.grown hG hbel
    exact ⟨g, .v _, G1, T1⟩
  · rename_i hl0
    simp only [Prod.mk.injEq] at hp
    obtain ⟨rfl, rfl⟩ := hp
    obtain ⟨hxl, hrow⟩ := hrow
    rcases hrow with ⟨_, h0⟩ | ⟨B, cap, cur, rfl, hbase, hB, c1, c2, c3, c4⟩
    · exact (hl0 h0).elim
    have hlen' : (sortI l).length = l.length := (sortI_perm l).length_eq
    have hcur : ∀ i, i < l.length → cur[i]? = some (encZ ((sortI l).getD i 0)) := by
      intro i hi
      have h1 := congrArg (fun z => z[i]?) c4
      simp only [Nat.mul_one] at h1
      rw [List.getElem?_take_of_lt hi, List.getElem?_map] at h1
      rw [Array.getElem?_toList] at h1
      rw [h1]
      simp [List.getD, show i < (sortI l).length by omega]
    have hO : ObjR (g.add B cap l.length) w' g.n (.own 1 l.length) := by
      refine ⟨cur, 3, by rw [add_box]; exact hB, by rw [add_cap]; exact c3, by rw [c3]; omega, by rw [add_box, add_use]⟩
    obtain ⟨G1, T1⟩ := hG.add (B := B) ⟨hbel.os, hbel.tape, hbel.output, hbel.size, fun k hk _ => hbel.block k hk⟩ (Nat.le_trans hG.base hbase) (Array.getElem?_eq_some_iff.1 hB).1 (fun b' hb' hl' => by
      have := live_size (hG.obj b' hb') hl'
      omega) cap l.length (by rw [hG.fresh B hbase]; exact Nat.zero_le _) (fun o ho => by rw [hG.fresh B hbase] at ho; omega) (.own 1 l.length) hO
    refine ⟨_, ?_, G1, T1⟩
    have hRo := R.own (g := g.add B cap l.length) (w := w') g.n l.length ((sortI l).map fun x => .v (.int .i64 x)) (fun i => encZ ((sortI l).getD i 0)) (Nat.lt_succ_self g.n) (by
      intro i hi
      rw [add_box, add_use]
      have hi : i < l.length := by simpa [hlen'] using hi
      refine ⟨by omega, ?_, rfl⟩
      simp only [World.cell?, Nat.zero_add, hB, Option.isSome_none, Bool.false_eq_true, if_false]
      exact hcur i hi) (fun i c hi => by
      rw [List.getElem?_map, Option.map_eq_some_iff] at hi
      obtain ⟨y, hy, rfl⟩ := hi
      have : (sortI l).getD i 0 = y := by simp [List.getD, hy]
      rw [this]
      exact .v _) (by rw [add_cap]; exact c1)
    rw [add_box, add_cap, hG.n] at hRo
    exact hRo
end Go.Proofs.YtkflapebfmcmaaaGreat
