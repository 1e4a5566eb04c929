/- Parts of the proofs of this seat's laws. -/
import Derived.Test.YtkflapebfmcmaaaGreatBOnce12
import Derived.Test.YtkflapebfmcmaaaGreatBOnce14
section
set_option linter.all false
namespace Go.Sv
open Go Go.RowKit Go.Proofs
structure T26 where
  c0 : Int
  c1 : Int
  c2 : Int
  c3 : Int
def T26.dec : List SV → Option T26
  | [.v (.int .u32 c0), .v (.int .u32 c1), .v (.int .u32 c2), .v (.int .u32 c3)] => some ⟨c0, c1, c2, c3⟩
  | _ => none
def T26.enc (x : T26) : List SV := [.v (.int .u32 x.c0), .v (.int .u32 x.c1), .v (.int .u32 x.c2), .v (.int .u32 x.c3)]
theorem T26.ok (cs : List SV) (a : T26) (h : T26.dec cs = some a) : T26.enc a = cs := by
  unfold T26.dec at h
  split at h
  · injection h with h; subst h; rfl
  · cases h
def cd26 : Cdc := ⟨T26, T26.dec, T26.enc, T26.ok⟩

structure T28 where
  tmp : Int
  ty : Int
  c0 : Int
  c1 : Int
  c2 : Int
  c3 : Int
def T28.dec : List SV → Option T28
  | [.v (.int .i64 tmp), .v (.int .i64 ty), .v (.int .u32 c0), .v (.int .u32 c1), .v (.int .u32 c2), .v (.int .u32 c3)] => some ⟨tmp, ty, c0, c1, c2, c3⟩
  | _ => none
def T28.enc (x : T28) : List SV := [.v (.int .i64 x.tmp), .v (.int .i64 x.ty), .v (.int .u32 x.c0), .v (.int .u32 x.c1), .v (.int .u32 x.c2), .v (.int .u32 x.c3)]
theorem T28.ok (cs : List SV) (a : T28) (h : T28.dec cs = some a) : T28.enc a = cs := by
  unfold T28.dec at h
  split at h
  · injection h with h; subst h; rfl
  · cases h
def cd28 : Cdc := ⟨T28, T28.dec, T28.enc, T28.ok⟩

structure T108 where
  at_ : Int
  n : Int
def T108.dec : List SV → Option T108
  | [.v (.int .u32 at_), .v (.int .i64 n)] => some ⟨at_, n⟩
  | _ => none
def T108.enc (x : T108) : List SV := [.v (.int .u32 x.at_), .v (.int .i64 x.n)]
theorem T108.ok (cs : List SV) (a : T108) (h : T108.dec cs = some a) : T108.enc a = cs := by
  unfold T108.dec at h
  split at h
  · injection h with h; subst h; rfl
  · cases h
def cd108 : Cdc := ⟨T108, T108.dec, T108.enc, T108.ok⟩

structure T55 where
  kind : Int
  ty : Int
  op : Int
  off : Int
  l : SV
def T55.dec : List SV → Option T55
  | [.v (.int .i64 kind), .v (.int .i64 ty), .v (.int .i64 op), .v (.int .i64 off), l] => some ⟨kind, ty, op, off, l⟩
  | _ => none
def T55.enc (x : T55) : List SV := [.v (.int .i64 x.kind), .v (.int .i64 x.ty), .v (.int .i64 x.op), .v (.int .i64 x.off), x.l]
theorem T55.ok (cs : List SV) (a : T55) (h : T55.dec cs = some a) : T55.enc a = cs := by
  unfold T55.dec at h
  split at h
  · injection h with h; subst h; rfl
  · cases h
def cd55 : Cdc := ⟨T55, T55.dec, T55.enc, T55.ok⟩

structure T57 where
  kind : Int
  tmp : Int
  off : Int
  n : Int
  jump : Int
  addr : Int
  to_ : Int
  e_Kind : Int
  e_Ty : Int
  e_Op : Int
  e_Off : Int
  e_L : SV
  l : SV
def T57.dec : List SV → Option T57
  | [.v (.int .i64 kind), .v (.int .i64 tmp), .v (.int .i64 off), .v (.int .i64 n), .v (.int .i64 jump), .v (.int .u32 addr), .v (.int .u32 to_), .v (.int .i64 e_Kind), .v (.int .i64 e_Ty), .v (.int .i64 e_Op), .v (.int .i64 e_Off), e_L, l] => some ⟨kind, tmp, off, n, jump, addr, to_, e_Kind, e_Ty, e_Op, e_Off, e_L, l⟩
  | _ => none
def T57.enc (x : T57) : List SV := [.v (.int .i64 x.kind), .v (.int .i64 x.tmp), .v (.int .i64 x.off), .v (.int .i64 x.n), .v (.int .i64 x.jump), .v (.int .u32 x.addr), .v (.int .u32 x.to_), .v (.int .i64 x.e_Kind), .v (.int .i64 x.e_Ty), .v (.int .i64 x.e_Op), .v (.int .i64 x.e_Off), x.e_L, x.l]
theorem T57.ok (cs : List SV) (a : T57) (h : T57.dec cs = some a) : T57.enc a = cs := by
  unfold T57.dec at h
  split at h
  · injection h with h; subst h; rfl
  · cases h
def cd57 : Cdc := ⟨T57, T57.dec, T57.enc, T57.ok⟩

structure T31 where
  tmps : SV
  l : SV
  next_Tmp : Int
  next_Ty : Int
  next_C0 : Int
  next_C1 : Int
  next_C2 : Int
  next_C3 : Int
  jump : Int
  spans : SV
def T31.dec : List SV → Option T31
  | [tmps, l, .v (.int .i64 next_Tmp), .v (.int .i64 next_Ty), .v (.int .u32 next_C0), .v (.int .u32 next_C1), .v (.int .u32 next_C2), .v (.int .u32 next_C3), .v (.int .i64 jump), spans] => some ⟨tmps, l, next_Tmp, next_Ty, next_C0, next_C1, next_C2, next_C3, jump, spans⟩
  | _ => none
def T31.enc (x : T31) : List SV := [x.tmps, x.l, .v (.int .i64 x.next_Tmp), .v (.int .i64 x.next_Ty), .v (.int .u32 x.next_C0), .v (.int .u32 x.next_C1), .v (.int .u32 x.next_C2), .v (.int .u32 x.next_C3), .v (.int .i64 x.jump), x.spans]
theorem T31.ok (cs : List SV) (a : T31) (h : T31.dec cs = some a) : T31.enc a = cs := by
  unfold T31.dec at h
  split at h
  · injection h with h; subst h; rfl
  · cases h
def cd31 : Cdc := ⟨T31, T31.dec, T31.enc, T31.ok⟩

structure T37 where
  a_Tmp : Int
  a_Ty : Int
  a_C0 : Int
  a_C1 : Int
  a_C2 : Int
  a_C3 : Int
  kind : Int
  ty : Int
  op : Int
  off : Int
  l : SV
def T37.dec : List SV → Option T37
  | [.v (.int .i64 a_Tmp), .v (.int .i64 a_Ty), .v (.int .u32 a_C0), .v (.int .u32 a_C1), .v (.int .u32 a_C2), .v (.int .u32 a_C3), .v (.int .i64 kind), .v (.int .i64 ty), .v (.int .i64 op), .v (.int .i64 off), l] => some ⟨a_Tmp, a_Ty, a_C0, a_C1, a_C2, a_C3, kind, ty, op, off, l⟩
  | _ => none
def T37.enc (x : T37) : List SV := [.v (.int .i64 x.a_Tmp), .v (.int .i64 x.a_Ty), .v (.int .u32 x.a_C0), .v (.int .u32 x.a_C1), .v (.int .u32 x.a_C2), .v (.int .u32 x.a_C3), .v (.int .i64 x.kind), .v (.int .i64 x.ty), .v (.int .i64 x.op), .v (.int .i64 x.off), x.l]
theorem T37.ok (cs : List SV) (a : T37) (h : T37.dec cs = some a) : T37.enc a = cs := by
  unfold T37.dec at h
  split at h
  · injection h with h; subst h; rfl
  · cases h
def cd37 : Cdc := ⟨T37, T37.dec, T37.enc, T37.ok⟩

structure T59 where
  kind : Int
  tmp : Int
  off : Int
  n : Int
  jump : Int
  addr : Int
  to_ : Int
  e_A_Tmp : Int
  e_A_Ty : Int
  e_A_C0 : Int
  e_A_C1 : Int
  e_A_C2 : Int
  e_A_C3 : Int
  e_Kind : Int
  e_Ty : Int
  e_Op : Int
  e_Off : Int
  e_L : SV
  l : SV
def T59.dec : List SV → Option T59
  | [.v (.int .i64 kind), .v (.int .i64 tmp), .v (.int .i64 off), .v (.int .i64 n), .v (.int .i64 jump), .v (.int .u32 addr), .v (.int .u32 to_), .v (.int .i64 e_A_Tmp), .v (.int .i64 e_A_Ty), .v (.int .u32 e_A_C0), .v (.int .u32 e_A_C1), .v (.int .u32 e_A_C2), .v (.int .u32 e_A_C3), .v (.int .i64 e_Kind), .v (.int .i64 e_Ty), .v (.int .i64 e_Op), .v (.int .i64 e_Off), e_L, l] => some ⟨kind, tmp, off, n, jump, addr, to_, e_A_Tmp, e_A_Ty, e_A_C0, e_A_C1, e_A_C2, e_A_C3, e_Kind, e_Ty, e_Op, e_Off, e_L, l⟩
  | _ => none
def T59.enc (x : T59) : List SV := [.v (.int .i64 x.kind), .v (.int .i64 x.tmp), .v (.int .i64 x.off), .v (.int .i64 x.n), .v (.int .i64 x.jump), .v (.int .u32 x.addr), .v (.int .u32 x.to_), .v (.int .i64 x.e_A_Tmp), .v (.int .i64 x.e_A_Ty), .v (.int .u32 x.e_A_C0), .v (.int .u32 x.e_A_C1), .v (.int .u32 x.e_A_C2), .v (.int .u32 x.e_A_C3), .v (.int .i64 x.e_Kind), .v (.int .i64 x.e_Ty), .v (.int .i64 x.e_Op), .v (.int .i64 x.e_Off), x.e_L, x.l]
theorem T59.ok (cs : List SV) (a : T59) (h : T59.dec cs = some a) : T59.enc a = cs := by
  unfold T59.dec at h
  split at h
  · injection h with h; subst h; rfl
  · cases h
def cd59 : Cdc := ⟨T59, T59.dec, T59.enc, T59.ok⟩

structure T39 where
  tmps : SV
  l : SV
  next_A_Tmp : Int
  next_A_Ty : Int
  next_A_C0 : Int
  next_A_C1 : Int
  next_A_C2 : Int
  next_A_C3 : Int
  next_Kind : Int
  next_Ty : Int
  next_Op : Int
  next_Off : Int
  next_L : SV
  jump : Int
  spans : SV
def T39.dec : List SV → Option T39
  | [tmps, l, .v (.int .i64 next_A_Tmp), .v (.int .i64 next_A_Ty), .v (.int .u32 next_A_C0), .v (.int .u32 next_A_C1), .v (.int .u32 next_A_C2), .v (.int .u32 next_A_C3), .v (.int .i64 next_Kind), .v (.int .i64 next_Ty), .v (.int .i64 next_Op), .v (.int .i64 next_Off), next_L, .v (.int .i64 jump), spans] => some ⟨tmps, l, next_A_Tmp, next_A_Ty, next_A_C0, next_A_C1, next_A_C2, next_A_C3, next_Kind, next_Ty, next_Op, next_Off, next_L, jump, spans⟩
  | _ => none
def T39.enc (x : T39) : List SV := [x.tmps, x.l, .v (.int .i64 x.next_A_Tmp), .v (.int .i64 x.next_A_Ty), .v (.int .u32 x.next_A_C0), .v (.int .u32 x.next_A_C1), .v (.int .u32 x.next_A_C2), .v (.int .u32 x.next_A_C3), .v (.int .i64 x.next_Kind), .v (.int .i64 x.next_Ty), .v (.int .i64 x.next_Op), .v (.int .i64 x.next_Off), x.next_L, .v (.int .i64 x.jump), x.spans]
theorem T39.ok (cs : List SV) (a : T39) (h : T39.dec cs = some a) : T39.enc a = cs := by
  unfold T39.dec at h
  split at h
  · injection h with h; subst h; rfl
  · cases h
def cd39 : Cdc := ⟨T39, T39.dec, T39.enc, T39.ok⟩

structure T98 where
  tmp : Int
  t_A_Tmp : Int
  t_A_Ty : Int
  t_A_C0 : Int
  t_A_C1 : Int
  t_A_C2 : Int
  t_A_C3 : Int
  t_Kind : Int
  t_Ty : Int
  t_Op : Int
  t_Off : Int
  t_L : SV
def T98.dec : List SV → Option T98
  | [.v (.int .i64 tmp), .v (.int .i64 t_A_Tmp), .v (.int .i64 t_A_Ty), .v (.int .u32 t_A_C0), .v (.int .u32 t_A_C1), .v (.int .u32 t_A_C2), .v (.int .u32 t_A_C3), .v (.int .i64 t_Kind), .v (.int .i64 t_Ty), .v (.int .i64 t_Op), .v (.int .i64 t_Off), t_L] => some ⟨tmp, t_A_Tmp, t_A_Ty, t_A_C0, t_A_C1, t_A_C2, t_A_C3, t_Kind, t_Ty, t_Op, t_Off, t_L⟩
  | _ => none
def T98.enc (x : T98) : List SV := [.v (.int .i64 x.tmp), .v (.int .i64 x.t_A_Tmp), .v (.int .i64 x.t_A_Ty), .v (.int .u32 x.t_A_C0), .v (.int .u32 x.t_A_C1), .v (.int .u32 x.t_A_C2), .v (.int .u32 x.t_A_C3), .v (.int .i64 x.t_Kind), .v (.int .i64 x.t_Ty), .v (.int .i64 x.t_Op), .v (.int .i64 x.t_Off), x.t_L]
theorem T98.ok (cs : List SV) (a : T98) (h : T98.dec cs = some a) : T98.enc a = cs := by
  unfold T98.dec at h
  split at h
  · injection h with h; subst h; rfl
  · cases h
def cd98 : Cdc := ⟨T98, T98.dec, T98.enc, T98.ok⟩

structure T104 where
  tmp : Int
  t_A_Tmp : Int
  t_A_Ty : Int
  t_A_C0 : Int
  t_A_C1 : Int
  t_A_C2 : Int
  t_A_C3 : Int
  t_Kind : Int
  t_Ty : Int
  t_Op : Int
  t_Off : Int
  t_L : SV
def T104.dec : List SV → Option T104
  | [.v (.int .i64 tmp), .v (.int .i64 t_A_Tmp), .v (.int .i64 t_A_Ty), .v (.int .u32 t_A_C0), .v (.int .u32 t_A_C1), .v (.int .u32 t_A_C2), .v (.int .u32 t_A_C3), .v (.int .i64 t_Kind), .v (.int .i64 t_Ty), .v (.int .i64 t_Op), .v (.int .i64 t_Off), t_L] => some ⟨tmp, t_A_Tmp, t_A_Ty, t_A_C0, t_A_C1, t_A_C2, t_A_C3, t_Kind, t_Ty, t_Op, t_Off, t_L⟩
  | _ => none
def T104.enc (x : T104) : List SV := [.v (.int .i64 x.tmp), .v (.int .i64 x.t_A_Tmp), .v (.int .i64 x.t_A_Ty), .v (.int .u32 x.t_A_C0), .v (.int .u32 x.t_A_C1), .v (.int .u32 x.t_A_C2), .v (.int .u32 x.t_A_C3), .v (.int .i64 x.t_Kind), .v (.int .i64 x.t_Ty), .v (.int .i64 x.t_Op), .v (.int .i64 x.t_Off), x.t_L]
theorem T104.ok (cs : List SV) (a : T104) (h : T104.dec cs = some a) : T104.enc a = cs := by
  unfold T104.dec at h
  split at h
  · injection h with h; subst h; rfl
  · cases h
def cd104 : Cdc := ⟨T104, T104.dec, T104.enc, T104.ok⟩

def hcd (t : TypeId) : Option Cdc := match t with
  | 26 => some cd26
  | 28 => some cd28
  | 108 => some cd108
  | 55 => some cd55
  | 57 => some cd57
  | 31 => some cd31
  | 37 => some cd37
  | 59 => some cd59
  | 39 => some cd39
  | 98 => some cd98
  | 104 => some cd104
  | _ => none
def hres (f : FuncId) : List Nat := match f with
  | 3 => [2]
  | 4 => [2]
  | 5 => [2]
  | 6 => [2]
  | 7 => [2]
  | 8 => [2]
  | 9 => [2]
  | 10 => [2]
  | 11 => [2]
  | 12 => [2]
  | 13 => [2]
  | 14 => [39, 1]
  | 15 => [39, 1]
  | 16 => [2]
  | 17 => [2]
  | 18 => [39, 1]
  | 19 => [39, 1]
  | 20 => [31, 1]
  | 21 => [31, 1]
  | 22 => [2]
  | 23 => [1]
  | 24 => [1, 1, 1]
  | 25 => [1]
  | 26 => [1]
  | 27 => [2]
  | 28 => [1]
  | 29 => [2]
  | 30 => [57]
  | 31 => [57]
  | 34 => [1]
  | 35 => [2]
  | 36 => [1]
  | 37 => [28]
  | 38 => [57]
  | 39 => [31, 1]
  | 40 => [2]
  | 41 => [37]
  | 42 => [2]
  | 43 => [55]
  | 44 => [55]
  | 45 => [28]
  | 46 => [31]
  | 47 => [57]
  | 48 => [37]
  | 49 => [37]
  | 50 => [1, 1, 1]
  | 51 => [1]
  | 52 => [2]
  | 53 => [1, 1]
  | 54 => [1]
  | 58 => [59]
  | 59 => [37]
  | 61 => [59, 0]
  | 62 => [2]
  | 63 => [1]
  | 64 => [0, 0]
  | 66 => [59]
  | 67 => [37]
  | 68 => [37]
  | 71 => [55]
  | 73 => [28]
  | 74 => [55]
  | 75 => [28]
  | 76 => [2]
  | 77 => [1]
  | 78 => [2]
  | 80 => [1]
  | 81 => [1]
  | 82 => [1]
  | 83 => [1]
  | 85 => [1]
  | 86 => [57, 2]
  | 87 => [2]
  | 88 => [0, 2]
  | 89 => [2]
  | 90 => [2]
  | 93 => [1]
  | 94 => [31]
  | 95 => [1]
  | 96 => [2]
  | 98 => [1]
  | 99 => [1]
  | 101 => [2]
  | 102 => [2]
  | 103 => [1]
  | 104 => [2]
  | 105 => [2]
  | 106 => [2]
  | 107 => [2]
  | 108 => [2]
  | 109 => [2]
  | 110 => [2]
  | 111 => [1]
  | 112 => [2]
  | 113 => [2]
  | 114 => [2]
  | 115 => [2]
  | 117 => [2]
  | 118 => [1]
  | 119 => [1]
  | 120 => [59]
  | 121 => [37]
  | 123 => [1]
  | 124 => [2]
  | 127 => [2]
  | 129 => [2]
  | 130 => [2]
  | 131 => [1]
  | 132 => [55]
  | 134 => [2]
  | 135 => [1]
  | 136 => [2]
  | 137 => [2]
  | 138 => [2]
  | 139 => [2]
  | 141 => [2]
  | 143 => [1]
  | 145 => [57]
  | 146 => [57]
  | 147 => [28]
  | 150 => [2]
  | 151 => [2]
  | 152 => [2]
  | 153 => [1]
  | 155 => [2]
  | 156 => [1]
  | 157 => [1]
  | 158 => [2]
  | 159 => [1]
  | 160 => [1]
  | 162 => [2]
  | 163 => [2]
  | 164 => [2]
  | 165 => [2]
  | 166 => [2]
  | 167 => [2]
  | 168 => [2]
  | 172 => [2]
  | 173 => [2]
  | 174 => [2]
  | 175 => [2]
  | 176 => [2]
  | 177 => [2]
  | 179 => [2]
  | 180 => [2]
  | 181 => [2]
  | 185 => [1, 1]
  | 187 => [2]
  | 188 => [1]
  | 189 => [1, 2]
  | 190 => [1]
  | 191 => [1]
  | 192 => [28]
  | 194 => [1]
  | 195 => [2]
  | 196 => [1]
  | 197 => [1]
  | 198 => [1]
  | 199 => [2]
  | 201 => [1]
  | 202 => [1]
  | 210 => [1]
  | 211 => [1]
  | 214 => [1, 1]
  | 218 => [1, 1]
  | 220 => [2]
  | 221 => [2]
  | 222 => [1]
  | 223 => [1, 2]
  | 225 => [1]
  | 226 => [1]
  | 227 => [2]
  | 228 => [1, 1]
  | _ => []
def hh : H := { cd := hcd, res := hres, live := fun _ => [], keep := fun _ => none }
end Go.Sv
end
