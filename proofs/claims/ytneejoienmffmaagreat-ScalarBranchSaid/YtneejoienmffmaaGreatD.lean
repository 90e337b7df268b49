/-
  What the functions of the program make of plain data, as functions of plain data.
-/
import Derived.Test.YtneejoienmffmaaGreatSXb
set_option linter.unusedVariables false
set_option maxRecDepth 100000
namespace Go.Proofs.T
open Go Go.Proofs Go.Proofs.SX
structure Dc where
  kind : Int
  key : Int
  value : Int
  max : Int
structure Tn where
  v : Int
  m : Int
structure Us where
  lo : Int
  hi : Int
structure Ss where
  lo : Int
  hi : Int
structure Sc where
  t : Tn
  u : Us
  s : Ss
structure AR where
  kind : Int
  num : Sc
  off : Int
  id : Int
  rng : Int
  mp : Int
structure Vl where
  kind : Int
  n : Int
  id : Int
def cTn : Cod Tn where
  dec
    | .agg [.int .u64 a, .int .u64 b] => some ⟨a, b⟩
    | _ => none
  enc x := .agg [.int .u64 x.v, .int .u64 x.m]
  ok x a h := by
    split at h
    · injection h with h; subst h; rfl
    · cases h
  pu _ := rfl
def cUs : Cod Us where
  dec
    | .agg [.int .u64 a, .int .u64 b] => some ⟨a, b⟩
    | _ => none
  enc x := .agg [.int .u64 x.lo, .int .u64 x.hi]
  ok x a h := by
    split at h
    · injection h with h; subst h; rfl
    · cases h
  pu _ := rfl
def cSs : Cod Ss where
  dec
    | .agg [.int .i64 a, .int .i64 b] => some ⟨a, b⟩
    | _ => none
  enc x := .agg [.int .i64 x.lo, .int .i64 x.hi]
  ok x a h := by
    split at h
    · injection h with h; subst h; rfl
    · cases h
  pu _ := rfl
def cSc : Cod Sc where
  dec
    | .agg [.int .u64 a, .int .u64 b, .int .u64 c, .int .u64 d, .int .i64 e, .int .i64 f] => some ⟨⟨a, b⟩, ⟨c, d⟩, ⟨e, f⟩⟩
    | _ => none
  enc x := .agg [.int .u64 x.t.v, .int .u64 x.t.m, .int .u64 x.u.lo, .int .u64 x.u.hi, .int .i64 x.s.lo, .int .i64 x.s.hi]
  ok x a h := by
    split at h
    · injection h with h; subst h; rfl
    · cases h
  pu _ := rfl
def cAR : Cod AR where
  dec
    | .agg [.int .i64 k, .int .u64 a, .int .u64 b, .int .u64 c, .int .u64 d, .int .i64 e, .int .i64 f, .int .i64 o, .int .i64 i, .int .i64 r, .int .i64 m] => some ⟨k, ⟨⟨a, b⟩, ⟨c, d⟩, ⟨e, f⟩⟩, o, i, r, m⟩
    | _ => none
  enc x := .agg [.int .i64 x.kind, .int .u64 x.num.t.v, .int .u64 x.num.t.m, .int .u64 x.num.u.lo, .int .u64 x.num.u.hi, .int .i64 x.num.s.lo, .int .i64 x.num.s.hi, .int .i64 x.off, .int .i64 x.id, .int .i64 x.rng, .int .i64 x.mp]
  ok x a h := by
    split at h
    · injection h with h; subst h; rfl
    · cases h
  pu _ := rfl
def cVl : Cod Vl where
  dec
    | .agg [.int .i64 a, .int .u64 b, .int .i64 c] => some ⟨a, b, c⟩
    | _ => none
  enc x := .agg [.int .i64 x.kind, .int .u64 x.n, .int .i64 x.id]
  ok x a h := by
    split at h
    · injection h with h; subst h; rfl
    · cases h
  pu _ := rfl
def cDc : Cod Dc where
  dec
    | .agg [.int .i64 a, .int .i64 b, .int .i64 c, .int .i64 d] => some ⟨a, b, c, d⟩
    | _ => none
  enc x := .agg [.int .i64 x.kind, .int .i64 x.key, .int .i64 x.value, .int .i64 x.max]
  ok x a h := by
    split at h
    · injection h with h; subst h; rfl
    · cases h
  pu _ := rfl
def lockgateref03_In_L (a : Tn) (b : Int) : Nat → Int → Option (Out (Int) Bool)
  | 0, _ => none
  | n + 1, v0 =>
    if v0 < 64 then (if (Int.tmod (shr .u64 a.m v0) 2) = 0 then (if (Int.tmod (shr .u64 a.v v0) 2) = (Int.tmod (shr .u64 b v0) 2) then lockgateref03_In_L a b n (IntKind.u64.wrap (v0 + 1))
        else some (.ret false))
      else lockgateref03_In_L a b n (IntKind.u64.wrap (v0 + 1)))
    else some (.brk (v0))
def lockgateref03_In_I (a : Tn) (b : Int) (v0 : Int) : St := ⟨[.agg [.int .u64 a.v, .int .u64 a.m], .int .u64 b, .ptr 0 0, .any, .bool false, .int .u64 v0, .any, .any, .any, .any, .any, .any, .any, .any, .any, .any, .any, .any, .any, .any, .any, .any, .any, .any, .any, .any, .any, .any], [.cells [.int .u64 a.v, .int .u64 a.m]]⟩
def lockgateref03_In_F (r : Bool) : St := ⟨[.any, .any, .any, .any, .bool r, .any, .any, .any, .any, .any, .any, .any, .any, .any, .any, .any, .any, .any, .any, .any, .any, .any, .any, .any, .any, .any, .any, .any], [.cells [.any, .any]]⟩
def lockgateref03_In (a : Tn) (b : Int) : Bool :=
  match lockgateref03_In_L a b 65 0 with
  | some (.brk z) => true
  | some (.ret r) => r
  | none => false
def lockgateref03_Meet_L (a : Tn) (b : Tn) : Nat → Int → Int → Int → Option (Out (Int × Int × Int) (Tn × Bool))
  | 0, _, _, _ => none
  | n + 1, v0, v1, v2 =>
    if v0 < 64 then (if (Int.tmod (shr .u64 a.m v0) 2) = 0 then (if (Int.tmod (shr .u64 b.m v0) 2) = 0 then (if (Int.tmod (shr .u64 a.v v0) 2) = (Int.tmod (shr .u64 b.v v0) 2) then lockgateref03_Meet_L a b n (IntKind.u64.wrap (v0 + 1)) (Go.bits .or .u64 v1 (shl .u64 (Int.tmod (shr .u64 (Go.bits .or .u64 a.v b.v) v0) 2) v0)) v2
          else some (.ret ((⟨0, 0⟩ : Tn), false)))
        else lockgateref03_Meet_L a b n (IntKind.u64.wrap (v0 + 1)) (Go.bits .or .u64 v1 (shl .u64 (Int.tmod (shr .u64 (Go.bits .or .u64 a.v b.v) v0) 2) v0)) v2)
      else if (Int.tmod (shr .u64 b.m v0) 2) = 0 then lockgateref03_Meet_L a b n (IntKind.u64.wrap (v0 + 1)) (Go.bits .or .u64 v1 (shl .u64 (Int.tmod (shr .u64 (Go.bits .or .u64 a.v b.v) v0) 2) v0)) v2
        else lockgateref03_Meet_L a b n (IntKind.u64.wrap (v0 + 1)) (Go.bits .or .u64 v1 (shl .u64 (Int.tmod (shr .u64 (Go.bits .or .u64 a.v b.v) v0) 2) v0)) (Go.bits .or .u64 v2 (shl .u64 1 v0)))
    else some (.brk (v0, v1, v2))
def lockgateref03_Meet_I (a : Tn) (b : Tn) (v0 : Int) (v1 : Int) (v2 : Int) : St := ⟨[.agg [.int .u64 a.v, .int .u64 a.m], .agg [.int .u64 b.v, .int .u64 b.m], .ptr 0 0, .ptr 1 0, .ptr 2 0, .bool false, .ptr 3 0, .int .u64 v0, .any, .any, .any, .any, .any, .any, .any, .any, .any, .any, .any, .any, .any, .any, .any, .any, .any, .any, .any, .any, .any, .any, .any, .any, .any, .any, .any, .any, .any, .any, .any, .any, .any, .any, .any, .any, .any, .any, .any, .any, .any, .any, .any, .any, .any, .any, .any, .any, .any, .any, .any, .any, .any, .any, .any, .any, .any, .any, .any, .any, .any, .any, .any], [.cells [.int .u64 a.v, .int .u64 a.m], .cells [.int .u64 b.v, .int .u64 b.m], .cells [.int .u64 0, .int .u64 0], .cells [.int .u64 v1, .int .u64 v2]]⟩
def lockgateref03_Meet_F (r : (Tn × Bool)) : St := ⟨[.any, .any, .any, .any, .ptr 2 0, .bool r.2, .any, .any, .any, .any, .any, .any, .any, .any, .any, .any, .any, .any, .any, .any, .any, .any, .any, .any, .any, .any, .any, .any, .any, .any, .any, .any, .any, .any, .any, .any, .any, .any, .any, .any, .any, .any, .any, .any, .any, .any, .any, .any, .any, .any, .any, .any, .any, .any, .any, .any, .any, .any, .any, .any, .any, .any, .any, .any, .any, .any, .any, .any, .any, .any, .any], [.cells [.any, .any], .cells [.any, .any], .cells [.int .u64 r.1.v, .int .u64 r.1.m], .cells [.any, .any]]⟩
def lockgateref03_Meet (a : Tn) (b : Tn) : (Tn × Bool) :=
  match lockgateref03_Meet_L a b 65 0 0 0 with
  | some (.brk z) => ((⟨z.2.1, z.2.2⟩ : Tn), true)
  | some (.ret r) => r
  | none => ((⟨0, 0⟩ : Tn), false)
def lockgateref04_top : Int :=
  9223372036854775808
def lockgateref04_UAll : Us :=
  (⟨0, (IntKind.u64.wrap (lockgateref04_top + (IntKind.u64.wrap (lockgateref04_top - 1))))⟩ : Us)
def lockgateref04_ToT_L (a : Us) : Nat → Int → Option (Out (Int) Tn)
  | 0, _ => none
  | n + 1, v0 =>
    if v0 < lockgateref04_UAll.hi then (if (IntKind.u64.wrap (a.lo - (Int.tmod a.lo (IntKind.u64.wrap (v0 + 1))))) = (IntKind.u64.wrap (a.hi - (Int.tmod a.hi (IntKind.u64.wrap (v0 + 1))))) then some (.brk (v0))
      else lockgateref04_ToT_L a n (IntKind.u64.wrap ((IntKind.u64.wrap (2 * v0)) + 1)))
    else some (.brk (v0))
def lockgateref04_ToT_I (a : Us) (v0 : Int) : St := ⟨[.agg [.int .u64 a.lo, .int .u64 a.hi], .ptr 0 0, .ptr 1 0, .int .u64 v0, .any, .any, .any, .any, .any, .any, .any, .any, .any, .any, .any, .any, .any, .any, .any, .any, .any, .any, .any, .any, .any, .any, .any, .any, .any, .any, .any, .any, .any, .any, .any, .any, .any, .any, .any, .any, .any, .any, .any, .any, .any, .any], [.cells [.int .u64 a.lo, .int .u64 a.hi], .cells [.int .u64 0, .int .u64 0]]⟩
def lockgateref04_ToT_F (r : Tn) : St := ⟨[.any, .any, .ptr 1 0, .any, .any, .any, .any, .any, .any, .any, .any, .any, .any, .any, .any, .any, .any, .any, .any, .any, .any, .any, .any, .any, .any, .any, .any, .any, .any, .any, .any, .any, .any, .any, .any, .any, .any, .any, .any, .any, .any, .any, .any, .any, .any, .any], [.cells [.any, .any], .cells [.int .u64 r.v, .int .u64 r.m]]⟩
def lockgateref04_ToT (a : Us) : Tn :=
  match lockgateref04_ToT_L a 65 0 with
  | some (.brk z) => (if z = lockgateref04_UAll.hi then (⟨0, z⟩ : Tn)
    else (⟨(IntKind.u64.wrap (a.lo - (Int.tmod a.lo (IntKind.u64.wrap (z + 1))))), z⟩ : Tn))
  | some (.ret r) => r
  | none => (⟨0, 0⟩ : Tn)
def tab0 : ByteArray := ⟨#[0, 1, 2, 2, 3, 3, 3, 3, 4, 4, 4, 4, 4, 4, 4, 4, 5, 5, 5, 5, 5, 5, 5, 5, 5, 5, 5, 5, 5, 5, 5, 5, 6, 6, 6, 6, 6, 6, 6, 6, 6, 6, 6, 6, 6, 6, 6, 6, 6, 6, 6, 6, 6, 6, 6, 6, 6, 6, 6, 6, 6, 6, 6, 6, 7, 7, 7, 7, 7, 7, 7, 7, 7, 7, 7, 7, 7, 7, 7, 7, 7, 7, 7, 7, 7, 7, 7, 7, 7, 7, 7, 7, 7, 7, 7, 7, 7, 7, 7, 7, 7, 7, 7, 7, 7, 7, 7, 7, 7, 7, 7, 7, 7, 7, 7, 7, 7, 7, 7, 7, 7, 7, 7, 7, 7, 7, 7, 7, 8, 8, 8, 8, 8, 8, 8, 8, 8, 8, 8, 8, 8, 8, 8, 8, 8, 8, 8, 8, 8, 8, 8, 8, 8, 8, 8, 8, 8, 8, 8, 8, 8, 8, 8, 8, 8, 8, 8, 8, 8, 8, 8, 8, 8, 8, 8, 8, 8, 8, 8, 8, 8, 8, 8, 8, 8, 8, 8, 8, 8, 8, 8, 8, 8, 8, 8, 8, 8, 8, 8, 8, 8, 8, 8, 8, 8, 8, 8, 8, 8, 8, 8, 8, 8, 8, 8, 8, 8, 8, 8, 8, 8, 8, 8, 8, 8, 8, 8, 8, 8, 8, 8, 8, 8, 8, 8, 8, 8, 8, 8, 8, 8, 8, 8, 8, 8, 8, 8, 8, 8, 8, 8, 8, 8, 8, 8, 8]⟩
def bits_Len64 (a : Int) : Int :=
  if 4294967296 ≤ a then (if 65536 ≤ (shr .u64 a 32) then (if 256 ≤ (shr .u64 (shr .u64 a 32) 16) then (IntKind.i64.wrap (56 + (IntKind.i64.wrap (strAt tab0 (IntKind.u8.wrap (shr .u64 (shr .u64 (shr .u64 a 32) 16) 8))))))
      else (IntKind.i64.wrap (48 + (IntKind.i64.wrap (strAt tab0 (IntKind.u8.wrap (shr .u64 (shr .u64 a 32) 16)))))))
    else if 256 ≤ (shr .u64 a 32) then (IntKind.i64.wrap (40 + (IntKind.i64.wrap (strAt tab0 (IntKind.u8.wrap (shr .u64 (shr .u64 a 32) 8))))))
    else (IntKind.i64.wrap (32 + (IntKind.i64.wrap (strAt tab0 (IntKind.u8.wrap (shr .u64 a 32)))))))
  else if 65536 ≤ a then (if 256 ≤ (shr .u64 a 16) then (IntKind.i64.wrap (24 + (IntKind.i64.wrap (strAt tab0 (IntKind.u8.wrap (shr .u64 (shr .u64 a 16) 8))))))
    else (IntKind.i64.wrap (16 + (IntKind.i64.wrap (strAt tab0 (IntKind.u8.wrap (shr .u64 a 16)))))))
  else if 256 ≤ a then (IntKind.i64.wrap (8 + (IntKind.i64.wrap (strAt tab0 (IntKind.u8.wrap (shr .u64 a 8))))))
  else (IntKind.i64.wrap (0 + (IntKind.i64.wrap (strAt tab0 (IntKind.u8.wrap a)))))
def lockgateref01_bit (a : Int) (b : Int) : Int :=
  (Int.tmod (shr .u64 a (IntKind.u64.wrap b)) 2)
def lockgateref01_add_L (a : Int) (b : Int) (c : Int) : Nat → Int → Int → Int → Option (Out (Int × Int × Int) Int)
  | 0, _, _, _ => none
  | n + 1, v0, v1, v2 =>
    if v2 < 64 then lockgateref01_add_L a b c n (IntKind.u64.wrap (Int.tdiv (IntKind.u64.wrap ((IntKind.u64.wrap ((lockgateref01_bit a v2) + (lockgateref01_bit b v2))) + v0)) 2)) (Go.bits .or .u64 v1 (shl .u64 (Int.tmod (IntKind.u64.wrap ((IntKind.u64.wrap ((lockgateref01_bit a v2) + (lockgateref01_bit b v2))) + v0)) 2) (IntKind.u64.wrap v2))) (IntKind.i64.wrap (v2 + 1))
    else some (.brk (v0, v1, v2))
def lockgateref01_add_I (a : Int) (b : Int) (c : Int) (v0 : Int) (v1 : Int) (v2 : Int) : St := ⟨[.int .u64 a, .int .u64 b, .int .u64 v0, .any, .any, .any, .int .u64 0, .int .u64 v1, .int .i64 v2, .any, .any, .any, .any, .any, .any, .any, .any, .any, .any, .any, .any, .any, .any, .any, .any, .any, .any, .any, .any, .any, .any, .any, .any], []⟩
def lockgateref01_add_F (r : Int) : St := ⟨[.any, .any, .any, .any, .any, .any, .int .u64 r, .any, .any, .any, .any, .any, .any, .any, .any, .any, .any, .any, .any, .any, .any, .any, .any, .any, .any, .any, .any, .any, .any, .any, .any, .any, .any], []⟩
def lockgateref01_add (a : Int) (b : Int) (c : Int) : Int :=
  match lockgateref01_add_L a b c 65 c 0 0 with
  | some (.brk z) => z.2.1
  | some (.ret r) => r
  | none => 0
def lockgateref01_not_L (a : Int) : Nat → Int → Int → Option (Out (Int × Int) Int)
  | 0, _, _ => none
  | n + 1, v0, v1 =>
    if v1 < 64 then lockgateref01_not_L a n (Go.bits .or .u64 v0 (shl .u64 (IntKind.u64.wrap (1 - (lockgateref01_bit a v1))) (IntKind.u64.wrap v1))) (IntKind.i64.wrap (v1 + 1))
    else some (.brk (v0, v1))
def lockgateref01_not_I (a : Int) (v0 : Int) (v1 : Int) : St := ⟨[.int .u64 a, .any, .int .u64 0, .int .u64 v0, .int .i64 v1, .any, .any, .any, .any, .any, .any, .any, .any, .any, .any, .any, .any, .any, .any], []⟩
def lockgateref01_not_F (r : Int) : St := ⟨[.any, .any, .int .u64 r, .any, .any, .any, .any, .any, .any, .any, .any, .any, .any, .any, .any, .any, .any, .any, .any], []⟩
def lockgateref01_not (a : Int) : Int :=
  match lockgateref01_not_L a 65 0 0 with
  | some (.brk z) => z.1
  | some (.ret r) => r
  | none => 0
def lockgateref01_times_L (a : Int) (b : Int) : Nat → Int → Int → Option (Out (Int × Int) Int)
  | 0, _, _ => none
  | n + 1, v0, v1 =>
    if v1 < 64 then (if (lockgateref01_bit a v1) = 1 then lockgateref01_times_L a b n (lockgateref01_add v0 (shl .u64 b (IntKind.u64.wrap v1)) 0) (IntKind.i64.wrap (v1 + 1))
      else lockgateref01_times_L a b n v0 (IntKind.i64.wrap (v1 + 1)))
    else some (.brk (v0, v1))
def lockgateref01_times_I (a : Int) (b : Int) (v0 : Int) (v1 : Int) : St := ⟨[.int .u64 a, .int .u64 b, .any, .any, .int .u64 0, .int .u64 v0, .int .i64 v1, .any, .any, .any, .any, .any, .any, .any, .any, .any, .any, .any, .any, .any, .any, .any], []⟩
def lockgateref01_times_F (r : Int) : St := ⟨[.any, .any, .any, .any, .int .u64 r, .any, .any, .any, .any, .any, .any, .any, .any, .any, .any, .any, .any, .any, .any, .any, .any, .any], []⟩
def lockgateref01_times (a : Int) (b : Int) : Int :=
  match lockgateref01_times_L a b 65 0 0 with
  | some (.brk z) => z.1
  | some (.ret r) => r
  | none => 0
def lockgateref01_divide_L (a : Int) (b : Int) : Nat → Int → Int → Int → Option (Out (Int × Int × Int) (Int × Int))
  | 0, _, _, _ => none
  | n + 1, v0, v1, v2 =>
    if 0 ≤ v2 then (if (lockgateref01_bit v1 63) = 1 then lockgateref01_divide_L a b n (Go.bits .or .u64 v0 (shl .u64 1 (IntKind.u64.wrap v2))) (lockgateref01_add (IntKind.u64.wrap ((IntKind.u64.wrap (v1 * 2)) + (lockgateref01_bit a v2))) (lockgateref01_not b) 1) (IntKind.i64.wrap (v2 - 1))
      else if b ≤ (IntKind.u64.wrap ((IntKind.u64.wrap (v1 * 2)) + (lockgateref01_bit a v2))) then lockgateref01_divide_L a b n (Go.bits .or .u64 v0 (shl .u64 1 (IntKind.u64.wrap v2))) (lockgateref01_add (IntKind.u64.wrap ((IntKind.u64.wrap (v1 * 2)) + (lockgateref01_bit a v2))) (lockgateref01_not b) 1) (IntKind.i64.wrap (v2 - 1))
        else lockgateref01_divide_L a b n v0 (IntKind.u64.wrap ((IntKind.u64.wrap (v1 * 2)) + (lockgateref01_bit a v2))) (IntKind.i64.wrap (v2 - 1)))
    else some (.brk (v0, v1, v2))
def lockgateref01_divide_I (a : Int) (b : Int) (v0 : Int) (v1 : Int) (v2 : Int) : St := ⟨[.int .u64 a, .int .u64 b, .any, .any, .int .u64 0, .int .u64 0, .int .u64 v0, .int .u64 v1, .int .i64 v2, .any, .any, .any, .any, .any, .any, .any, .any, .any, .any, .any, .any, .any, .any, .any, .any, .any, .any, .any, .any, .any, .any, .any, .any, .any, .any, .any, .any, .any, .any, .any], []⟩
def lockgateref01_divide_F (r : (Int × Int)) : St := ⟨[.any, .any, .any, .any, .int .u64 r.1, .int .u64 r.2, .any, .any, .any, .any, .any, .any, .any, .any, .any, .any, .any, .any, .any, .any, .any, .any, .any, .any, .any, .any, .any, .any, .any, .any, .any, .any, .any, .any, .any, .any, .any, .any, .any, .any], []⟩
def lockgateref01_divide (a : Int) (b : Int) : (Int × Int) :=
  match lockgateref01_divide_L a b 65 0 0 63 with
  | some (.brk z) => (z.1, z.2.1)
  | some (.ret r) => r
  | none => (0, 0)
def lockgateref01_bits_L (a : Int) (b : Int) (c : Int) : Nat → Int → Int → Option (Out (Int × Int) Int)
  | 0, _, _ => none
  | n + 1, v0, v1 =>
    if v1 < 64 then (if a = 4 then (if 0 < (IntKind.u64.wrap ((lockgateref01_bit b v1) + (lockgateref01_bit c v1))) then lockgateref01_bits_L a b c n (Go.bits .or .u64 v0 (shl .u64 1 (IntKind.u64.wrap v1))) (IntKind.i64.wrap (v1 + 1))
        else if a = 5 then (if (IntKind.u64.wrap ((lockgateref01_bit b v1) + (lockgateref01_bit c v1))) = 2 then lockgateref01_bits_L a b c n (Go.bits .or .u64 v0 (shl .u64 1 (IntKind.u64.wrap v1))) (IntKind.i64.wrap (v1 + 1))
            else if a = 10 then (if (IntKind.u64.wrap ((lockgateref01_bit b v1) + (lockgateref01_bit c v1))) = 1 then lockgateref01_bits_L a b c n (Go.bits .or .u64 v0 (shl .u64 1 (IntKind.u64.wrap v1))) (IntKind.i64.wrap (v1 + 1))
                else lockgateref01_bits_L a b c n v0 (IntKind.i64.wrap (v1 + 1)))
              else lockgateref01_bits_L a b c n v0 (IntKind.i64.wrap (v1 + 1)))
          else if a = 10 then (if (IntKind.u64.wrap ((lockgateref01_bit b v1) + (lockgateref01_bit c v1))) = 1 then lockgateref01_bits_L a b c n (Go.bits .or .u64 v0 (shl .u64 1 (IntKind.u64.wrap v1))) (IntKind.i64.wrap (v1 + 1))
              else lockgateref01_bits_L a b c n v0 (IntKind.i64.wrap (v1 + 1)))
            else lockgateref01_bits_L a b c n v0 (IntKind.i64.wrap (v1 + 1)))
      else if a = 5 then (if (IntKind.u64.wrap ((lockgateref01_bit b v1) + (lockgateref01_bit c v1))) = 2 then lockgateref01_bits_L a b c n (Go.bits .or .u64 v0 (shl .u64 1 (IntKind.u64.wrap v1))) (IntKind.i64.wrap (v1 + 1))
          else if a = 10 then (if (IntKind.u64.wrap ((lockgateref01_bit b v1) + (lockgateref01_bit c v1))) = 1 then lockgateref01_bits_L a b c n (Go.bits .or .u64 v0 (shl .u64 1 (IntKind.u64.wrap v1))) (IntKind.i64.wrap (v1 + 1))
              else lockgateref01_bits_L a b c n v0 (IntKind.i64.wrap (v1 + 1)))
            else lockgateref01_bits_L a b c n v0 (IntKind.i64.wrap (v1 + 1)))
        else if a = 10 then (if (IntKind.u64.wrap ((lockgateref01_bit b v1) + (lockgateref01_bit c v1))) = 1 then lockgateref01_bits_L a b c n (Go.bits .or .u64 v0 (shl .u64 1 (IntKind.u64.wrap v1))) (IntKind.i64.wrap (v1 + 1))
            else lockgateref01_bits_L a b c n v0 (IntKind.i64.wrap (v1 + 1)))
          else lockgateref01_bits_L a b c n v0 (IntKind.i64.wrap (v1 + 1)))
    else some (.brk (v0, v1))
def lockgateref01_bits_I (a : Int) (b : Int) (c : Int) (v0 : Int) (v1 : Int) : St := ⟨[.int .i64 a, .int .u64 b, .int .u64 c, .any, .any, .any, .int .u64 0, .int .u64 v0, .int .i64 v1, .any, .any, .any, .any, .any, .any, .any, .any, .any, .any, .any, .any, .any, .any, .any, .any, .any, .any, .any, .any, .any, .any, .any, .any, .any, .any, .any, .any, .any, .any, .any, .any, .any, .any, .any, .any, .any, .any, .any, .any], []⟩
def lockgateref01_bits_F (r : Int) : St := ⟨[.any, .any, .any, .any, .any, .any, .int .u64 r, .any, .any, .any, .any, .any, .any, .any, .any, .any, .any, .any, .any, .any, .any, .any, .any, .any, .any, .any, .any, .any, .any, .any, .any, .any, .any, .any, .any, .any, .any, .any, .any, .any, .any, .any, .any, .any, .any, .any, .any, .any, .any], []⟩
def lockgateref01_bits (a : Int) (b : Int) (c : Int) : Int :=
  match lockgateref01_bits_L a b c 65 0 0 with
  | some (.brk z) => z.1
  | some (.ret r) => r
  | none => 0
def lockgateref01_down_L (a : Int) (b : Int) (c : Int) (d : Int) : Nat → Int → Int → Option (Out (Int × Int) Int)
  | 0, _, _ => none
  | n + 1, v0, v1 =>
    if v1 < c then (if (IntKind.i64.wrap (v1 + b)) < c then lockgateref01_down_L a b c d n (Go.bits .or .u64 v0 (shl .u64 (lockgateref01_bit a (IntKind.i64.wrap (v1 + b))) (IntKind.u64.wrap v1))) (IntKind.i64.wrap (v1 + 1))
      else lockgateref01_down_L a b c d n (Go.bits .or .u64 v0 (shl .u64 d (IntKind.u64.wrap v1))) (IntKind.i64.wrap (v1 + 1)))
    else some (.brk (v0, v1))
def lockgateref01_down_I (a : Int) (b : Int) (c : Int) (d : Int) (v0 : Int) (v1 : Int) : St := ⟨[.int .u64 a, .int .i64 b, .int .i64 c, .int .u64 d, .any, .any, .any, .any, .int .u64 0, .int .u64 v0, .int .i64 v1, .any, .any, .any, .any, .any, .any, .any, .any, .any, .any, .any, .any, .any, .any, .any, .any, .any, .any, .any, .any, .any, .any, .any, .any], []⟩
def lockgateref01_down_F (r : Int) : St := ⟨[.any, .any, .any, .any, .any, .any, .any, .any, .int .u64 r, .any, .any, .any, .any, .any, .any, .any, .any, .any, .any, .any, .any, .any, .any, .any, .any, .any, .any, .any, .any, .any, .any, .any, .any, .any, .any], []⟩
def lockgateref01_down (a : Int) (b : Int) (c : Int) (d : Int) : Int :=
  match lockgateref01_down_L a b c d 65 0 0 with
  | some (.brk z) => z.1
  | some (.ret r) => r
  | none => 0
def lockgateref01_order_L (a : Int) (b : Int) (c : Int) (d : Bool) : Nat → Int → Option (Out (Int) Int)
  | 0, _ => none
  | n + 1, v0 =>
    if 0 ≤ v0 then (if (lockgateref01_bit a v0) = (lockgateref01_bit b v0) then lockgateref01_order_L a b c d n (IntKind.i64.wrap (v0 - 1))
      else if d = true then (if v0 = (IntKind.i64.wrap (c - 1)) then (if (lockgateref01_bit b v0) < (lockgateref01_bit a v0) then some (.ret (-1))
            else some (.ret 1))
          else if (lockgateref01_bit b v0) < (lockgateref01_bit a v0) then some (.ret 1)
            else some (.ret (-1)))
        else if (lockgateref01_bit b v0) < (lockgateref01_bit a v0) then some (.ret 1)
          else some (.ret (-1)))
    else some (.brk (v0))
def lockgateref01_order_I (a : Int) (b : Int) (c : Int) (d : Bool) (v0 : Int) : St := ⟨[.int .u64 a, .int .u64 b, .int .i64 c, .bool d, .any, .any, .any, .any, .int .i64 0, .int .i64 v0, .any, .any, .any, .int .i64 c, .int .i64 (IntKind.i64.wrap (c - 1)), .any, .any, .any, .any, .any, .any, .any, .any, .any, .any, .any, .any, .any, .any, .any, .any, .any, .any, .any, .any, .any, .any, .any, .any, .any, .any], []⟩
def lockgateref01_order_F (r : Int) : St := ⟨[.any, .any, .any, .any, .any, .any, .any, .any, .int .i64 r, .any, .any, .any, .any, .any, .any, .any, .any, .any, .any, .any, .any, .any, .any, .any, .any, .any, .any, .any, .any, .any, .any, .any, .any, .any, .any, .any, .any, .any, .any, .any, .any], []⟩
def lockgateref01_order (a : Int) (b : Int) (c : Int) (d : Bool) : Int :=
  match lockgateref01_order_L a b c d 65 (IntKind.i64.wrap (c - 1)) with
  | some (.brk z) => 0
  | some (.ret r) => r
  | none => 0
def lockgateref03_Within_L (a : Tn) (b : Tn) : Nat → Int → Option (Out (Int) Bool)
  | 0, _ => none
  | n + 1, v0 =>
    if v0 < 64 then (if (Int.tmod (shr .u64 b.m v0) 2) = 0 then (if (Int.tmod (shr .u64 a.m v0) 2) = 1 then some (.ret false)
        else if (Int.tmod (shr .u64 a.v v0) 2) = (Int.tmod (shr .u64 b.v v0) 2) then lockgateref03_Within_L a b n (IntKind.u64.wrap (v0 + 1))
          else some (.ret false))
      else lockgateref03_Within_L a b n (IntKind.u64.wrap (v0 + 1)))
    else some (.brk (v0))
def lockgateref03_Within_I (a : Tn) (b : Tn) (v0 : Int) : St := ⟨[.agg [.int .u64 a.v, .int .u64 a.m], .agg [.int .u64 b.v, .int .u64 b.m], .ptr 0 0, .ptr 1 0, .bool false, .int .u64 v0, .any, .any, .any, .any, .any, .any, .any, .any, .any, .any, .any, .any, .any, .any, .any, .any, .any, .any, .any, .any, .any, .any, .any, .any, .any, .any, .any, .any, .any, .any, .any], [.cells [.int .u64 a.v, .int .u64 a.m], .cells [.int .u64 b.v, .int .u64 b.m]]⟩
def lockgateref03_Within_F (r : Bool) : St := ⟨[.any, .any, .any, .any, .bool r, .any, .any, .any, .any, .any, .any, .any, .any, .any, .any, .any, .any, .any, .any, .any, .any, .any, .any, .any, .any, .any, .any, .any, .any, .any, .any, .any, .any, .any, .any, .any, .any], [.cells [.any, .any], .cells [.any, .any]]⟩
def lockgateref03_Within (a : Tn) (b : Tn) : Bool :=
  match lockgateref03_Within_L a b 65 0 with
  | some (.brk z) => true
  | some (.ret r) => r
  | none => false
def lockgateref03_Join_L (a : Tn) (b : Tn) : Nat → Int → Int → Int → Option (Out (Int × Int × Int) Tn)
  | 0, _, _, _ => none
  | n + 1, v0, v1, v2 =>
    if v0 < 64 then (if (Int.tmod (shr .u64 a.m v0) 2) = 1 then lockgateref03_Join_L a b n (IntKind.u64.wrap (v0 + 1)) v1 (Go.bits .or .u64 v2 (shl .u64 1 v0))
      else if (Int.tmod (shr .u64 b.m v0) 2) = 1 then lockgateref03_Join_L a b n (IntKind.u64.wrap (v0 + 1)) v1 (Go.bits .or .u64 v2 (shl .u64 1 v0))
        else if (Int.tmod (shr .u64 a.v v0) 2) = (Int.tmod (shr .u64 b.v v0) 2) then lockgateref03_Join_L a b n (IntKind.u64.wrap (v0 + 1)) (Go.bits .or .u64 v1 (shl .u64 (Int.tmod (shr .u64 a.v v0) 2) v0)) v2
          else lockgateref03_Join_L a b n (IntKind.u64.wrap (v0 + 1)) v1 (Go.bits .or .u64 v2 (shl .u64 1 v0)))
    else some (.brk (v0, v1, v2))
def lockgateref03_Join_I (a : Tn) (b : Tn) (v0 : Int) (v1 : Int) (v2 : Int) : St := ⟨[.agg [.int .u64 a.v, .int .u64 a.m], .agg [.int .u64 b.v, .int .u64 b.m], .ptr 0 0, .ptr 1 0, .ptr 2 0, .ptr 3 0, .int .u64 v0, .any, .any, .any, .any, .any, .any, .any, .any, .any, .any, .any, .any, .any, .any, .any, .any, .any, .any, .any, .any, .any, .any, .any, .any, .any, .any, .any, .any, .any, .any, .any, .any, .any, .any, .any, .any, .any, .any, .any, .any, .any, .any, .any, .any, .any, .any, .any, .any, .any], [.cells [.int .u64 a.v, .int .u64 a.m], .cells [.int .u64 b.v, .int .u64 b.m], .cells [.int .u64 0, .int .u64 0], .cells [.int .u64 v1, .int .u64 v2]]⟩
def lockgateref03_Join_F (r : Tn) : St := ⟨[.any, .any, .any, .any, .ptr 2 0, .any, .any, .any, .any, .any, .any, .any, .any, .any, .any, .any, .any, .any, .any, .any, .any, .any, .any, .any, .any, .any, .any, .any, .any, .any, .any, .any, .any, .any, .any, .any, .any, .any, .any, .any, .any, .any, .any, .any, .any, .any, .any, .any, .any, .any, .any, .any, .any, .any, .any, .any], [.cells [.any, .any], .cells [.any, .any], .cells [.int .u64 r.v, .int .u64 r.m], .cells [.any, .any]]⟩
def lockgateref03_Join (a : Tn) (b : Tn) : Tn :=
  match lockgateref03_Join_L a b 65 0 0 0 with
  | some (.brk z) => (⟨z.2.1, z.2.2⟩ : Tn)
  | some (.ret r) => r
  | none => (⟨0, 0⟩ : Tn)
def lockgateref04_round (a : Int) : Int :=
  if (Int.tmod a 64) < 0 then (IntKind.i64.wrap ((Int.tmod a 64) + 64))
  else (Int.tmod a 64)
def lockgateref04_ULsh_L (a : Us) (b : Int) : Nat → Int → Int → Int → Option (Out (Int × Int × Int) Us)
  | 0, _, _, _ => none
  | n + 1, v0, v1, v2 =>
    if v0 < (lockgateref04_round b) then (if lockgateref04_top ≤ v2 then some (.ret lockgateref04_UAll)
      else lockgateref04_ULsh_L a b n (IntKind.i64.wrap (v0 + 1)) (IntKind.u64.wrap (2 * v1)) (IntKind.u64.wrap (2 * v2)))
    else some (.brk (v0, v1, v2))
def lockgateref04_ULsh_I (a : Us) (b : Int) (v0 : Int) (v1 : Int) (v2 : Int) : St := ⟨[.agg [.int .u64 a.lo, .int .u64 a.hi], .int .i64 b, .ptr 0 0, .any, .ptr 1 0, .int .i64 v0, .any, .any, .any, .any, .any, .any, .any, .any, .any, .any, .any, .any, .any, .any, .any, .any, .any, .any, .any], [.cells [.int .u64 v1, .int .u64 v2], .cells [.int .u64 0, .int .u64 0]]⟩
def lockgateref04_ULsh_F (r : Us) : St := ⟨[.any, .any, .any, .any, .ptr 1 0, .any, .any, .any, .any, .any, .any, .any, .any, .any, .any, .any, .any, .any, .any, .any, .any, .any, .any, .any, .any], [.cells [.any, .any], .cells [.int .u64 r.lo, .int .u64 r.hi]]⟩
def lockgateref04_ULsh (a : Us) (b : Int) : Us :=
  match lockgateref04_ULsh_L a b 65 0 a.lo a.hi with
  | some (.brk z) => (⟨z.2.1, z.2.2⟩ : Us)
  | some (.ret r) => r
  | none => (⟨0, 0⟩ : Us)
def lockgateref04_URsh_L (a : Us) (b : Int) : Nat → Int → Int → Int → Option (Out (Int × Int × Int) Us)
  | 0, _, _, _ => none
  | n + 1, v0, v1, v2 =>
    if v0 < (lockgateref04_round b) then lockgateref04_URsh_L a b n (IntKind.i64.wrap (v0 + 1)) (IntKind.u64.wrap (Int.tdiv v1 2)) (IntKind.u64.wrap (Int.tdiv v2 2))
    else some (.brk (v0, v1, v2))
def lockgateref04_URsh_I (a : Us) (b : Int) (v0 : Int) (v1 : Int) (v2 : Int) : St := ⟨[.agg [.int .u64 a.lo, .int .u64 a.hi], .int .i64 b, .ptr 0 0, .any, .ptr 1 0, .int .i64 v0, .any, .any, .any, .any, .any, .any, .any, .any, .any, .any, .any, .any, .any, .any], [.cells [.int .u64 v1, .int .u64 v2], .cells [.int .u64 0, .int .u64 0]]⟩
def lockgateref04_URsh_F (r : Us) : St := ⟨[.any, .any, .any, .any, .ptr 1 0, .any, .any, .any, .any, .any, .any, .any, .any, .any, .any, .any, .any, .any, .any, .any], [.cells [.any, .any], .cells [.int .u64 r.lo, .int .u64 r.hi]]⟩
def lockgateref04_URsh (a : Us) (b : Int) : Us :=
  match lockgateref04_URsh_L a b 65 0 a.lo a.hi with
  | some (.brk z) => (⟨z.2.1, z.2.2⟩ : Us)
  | some (.ret r) => r
  | none => (⟨0, 0⟩ : Us)
def lockgateref04_half (a : Int) : Int :=
  if (Int.tmod a 2) < 0 then (IntKind.i64.wrap ((IntKind.i64.wrap (Int.tdiv a 2)) - 1))
  else (IntKind.i64.wrap (Int.tdiv a 2))
def lockgateref04_SArsh_L (a : Ss) (b : Int) : Nat → Int → Int → Int → Option (Out (Int × Int × Int) Ss)
  | 0, _, _, _ => none
  | n + 1, v0, v1, v2 =>
    if v0 < (lockgateref04_round b) then lockgateref04_SArsh_L a b n (IntKind.i64.wrap (v0 + 1)) (lockgateref04_half v1) (lockgateref04_half v2)
    else some (.brk (v0, v1, v2))
def lockgateref04_SArsh_I (a : Ss) (b : Int) (v0 : Int) (v1 : Int) (v2 : Int) : St := ⟨[.agg [.int .i64 a.lo, .int .i64 a.hi], .int .i64 b, .ptr 0 0, .any, .ptr 1 0, .int .i64 v0, .any, .any, .any, .any, .any, .any, .any, .any, .any, .any, .any, .any, .any, .any], [.cells [.int .i64 v1, .int .i64 v2], .cells [.int .i64 0, .int .i64 0]]⟩
def lockgateref04_SArsh_F (r : Ss) : St := ⟨[.any, .any, .any, .any, .ptr 1 0, .any, .any, .any, .any, .any, .any, .any, .any, .any, .any, .any, .any, .any, .any, .any], [.cells [.any, .any], .cells [.int .i64 r.lo, .int .i64 r.hi]]⟩
def lockgateref04_SArsh (a : Ss) (b : Int) : Ss :=
  match lockgateref04_SArsh_L a b 65 0 a.lo a.hi with
  | some (.brk z) => (⟨z.2.1, z.2.2⟩ : Ss)
  | some (.ret r) => r
  | none => (⟨0, 0⟩ : Ss)
def lockgateref03_without (a : Int) (b : Int) : Tn :=
  (⟨(Go.bits .andNot .u64 a b), b⟩ : Tn)
def lockgateref03_Of (a : Int) : Tn :=
  (⟨a, 0⟩ : Tn)
def lockgateref03_Add (a : Tn) (b : Tn) : Tn :=
  (lockgateref03_without (IntKind.u64.wrap (a.v + b.v)) (Go.bits .or .u64 (Go.bits .or .u64 (Go.bits .xor .u64 (IntKind.u64.wrap ((IntKind.u64.wrap ((IntKind.u64.wrap (a.v + b.v)) + a.m)) + b.m)) (IntKind.u64.wrap (a.v + b.v))) a.m) b.m))
def lockgateref03_Mul_L (a : Tn) (b : Tn) : Nat → Int → Int → Int → Option (Out (Int × Int × Int) Tn)
  | 0, _, _, _ => none
  | n + 1, v0, v1, v2 =>
    if v0 < 64 then (if (Int.tmod (shr .u64 a.v v0) 2) = 1 then lockgateref03_Mul_L a b n (IntKind.u64.wrap (v0 + 1)) ((lockgateref03_Add (⟨v1, v2⟩ : Tn) (⟨0, (shl .u64 b.m v0)⟩ : Tn)).v) ((lockgateref03_Add (⟨v1, v2⟩ : Tn) (⟨0, (shl .u64 b.m v0)⟩ : Tn)).m)
      else if (Int.tmod (shr .u64 a.m v0) 2) = 1 then lockgateref03_Mul_L a b n (IntKind.u64.wrap (v0 + 1)) ((lockgateref03_Add (⟨v1, v2⟩ : Tn) (⟨0, (shl .u64 (Go.bits .or .u64 b.v b.m) v0)⟩ : Tn)).v) ((lockgateref03_Add (⟨v1, v2⟩ : Tn) (⟨0, (shl .u64 (Go.bits .or .u64 b.v b.m) v0)⟩ : Tn)).m)
        else lockgateref03_Mul_L a b n (IntKind.u64.wrap (v0 + 1)) v1 v2)
    else some (.brk (v0, v1, v2))
def lockgateref03_Mul_I (a : Tn) (b : Tn) (v0 : Int) (v1 : Int) (v2 : Int) : St := ⟨[.agg [.int .u64 a.v, .int .u64 a.m], .agg [.int .u64 b.v, .int .u64 b.m], .ptr 0 0, .ptr 1 0, .ptr 2 0, .ptr 3 0, .int .u64 v0, .agg [.int .u64 ((lockgateref03_Of 0).v), .int .u64 ((lockgateref03_Of 0).m)], .any, .any, .any, .any, .any, .any, .any, .any, .any, .any, .any, .any, .any, .any, .any, .any, .any, .any, .any, .any, .any, .any, .any, .any, .any, .any, .any, .any, .any, .any, .any, .any, .any, .any, .any, .any, .any, .any, .any, .any, .any], [.cells [.int .u64 a.v, .int .u64 a.m], .cells [.int .u64 b.v, .int .u64 b.m], .cells [.int .u64 0, .int .u64 0], .cells [.int .u64 v1, .int .u64 v2]]⟩
def lockgateref03_Mul_F (r : Tn) : St := ⟨[.any, .any, .any, .any, .ptr 2 0, .any, .any, .any, .any, .any, .any, .any, .any, .any, .any, .any, .any, .any, .any, .any, .any, .any, .any, .any, .any, .any, .any, .any, .any, .any, .any, .any, .any, .any, .any, .any, .any, .any, .any, .any, .any, .any, .any, .any, .any, .any, .any, .any, .any], [.cells [.any, .any], .cells [.any, .any], .cells [.int .u64 r.v, .int .u64 r.m], .cells [.any, .any]]⟩
def lockgateref03_Mul (a : Tn) (b : Tn) : Tn :=
  match lockgateref03_Mul_L a b 65 0 ((lockgateref03_Of 0).v) ((lockgateref03_Of 0).m) with
  | some (.brk z) => (lockgateref03_Add (lockgateref03_Of (IntKind.u64.wrap (a.v * b.v))) (⟨z.2.1, z.2.2⟩ : Tn))
  | some (.ret r) => r
  | none => (⟨0, 0⟩ : Tn)
def lockgateref03_down_L (a : Int) (b : Int) (c : Int) : Nat → Int → Int → Option (Out (Int × Int) Int)
  | 0, _, _ => none
  | n + 1, v0, v1 =>
    if v1 < c then lockgateref03_down_L a b c n (Go.bits .or .u64 v0 (shl .u64 (Int.tmod (shr .u64 a (if (IntKind.u64.wrap (c - 1)) < (IntKind.u64.wrap (v1 + b)) then (IntKind.u64.wrap (c - 1)) else (IntKind.u64.wrap (v1 + b)))) 2) v1)) (IntKind.u64.wrap (v1 + 1))
    else some (.brk (v0, v1))
def lockgateref03_down_I (a : Int) (b : Int) (c : Int) (v0 : Int) (v1 : Int) : St := ⟨[.int .u64 a, .int .u64 b, .int .u64 c, .any, .any, .any, .int .u64 0, .int .u64 v0, .int .u64 v1, .any, .any, .any, .any, .any, .any, .any, .any, .any, .any, .any, .any, .any, .any, .any, .any, .any, .any, .any, .any, .any], []⟩
def lockgateref03_down_F (r : Int) : St := ⟨[.any, .any, .any, .any, .any, .any, .int .u64 r, .any, .any, .any, .any, .any, .any, .any, .any, .any, .any, .any, .any, .any, .any, .any, .any, .any, .any, .any, .any, .any, .any, .any], []⟩
def lockgateref03_down (a : Int) (b : Int) (c : Int) : Int :=
  match lockgateref03_down_L a b c 65 0 0 with
  | some (.brk z) => z.1
  | some (.ret r) => r
  | none => 0
def lockgateref04_full_L (a : Int) : Nat → Int → Option (Out (Int) Int)
  | 0, _ => none
  | n + 1, v0 =>
    if v0 < a then lockgateref04_full_L a n (IntKind.u64.wrap ((IntKind.u64.wrap (2 * v0)) + 1))
    else some (.brk (v0))
def lockgateref04_full_I (a : Int) (v0 : Int) : St := ⟨[.int .u64 a, .any, .int .u64 0, .int .u64 v0, .any, .any, .any, .any, .any, .any, .any], []⟩
def lockgateref04_full_F (r : Int) : St := ⟨[.any, .any, .int .u64 r, .any, .any, .any, .any, .any, .any, .any, .any], []⟩
def lockgateref04_full (a : Int) : Int :=
  match lockgateref04_full_L a 66 0 with
  | some (.brk z) => z
  | some (.ret r) => r
  | none => 0
def lockgatelaw05_May (a : Sc) : Sc :=
  (⟨(⟨(Go.bits .andNot .u64 a.t.v a.t.m), a.t.m⟩ : Tn), (⟨(if a.u.hi < a.u.lo then a.u.hi else a.u.lo), (if a.u.hi > a.u.lo then a.u.hi else a.u.lo)⟩ : Us), (⟨(if a.s.hi < a.s.lo then a.s.hi else a.s.lo), (if a.s.hi > a.s.lo then a.s.hi else a.s.lo)⟩ : Ss)⟩ : Sc)
def scalar_Is (a : Sc) : (Int × Bool) :=
  if a.u.lo = a.u.hi then (a.u.lo, true)
  else if a.t.m = 0 then (a.t.v, true)
  else if a.s.lo = a.s.hi then ((IntKind.u64.wrap a.s.lo), true)
  else (0, false)
def lockgateref05_Is (a : Sc) : (Int × Bool) :=
  if a.u.lo = a.u.hi then (a.u.lo, true)
  else if a.t.m = 0 then (a.t.v, true)
  else if a.s.lo = a.s.hi then ((IntKind.u64.wrap a.s.lo), true)
  else (0, false)
def word_Alu (a : Int) (b : Bool) (c : Int) (d : Int) : (Int × Bool) :=
  if a = 12 then (if b = true then ((IntKind.u64.wrap (shr .i64 (IntKind.i64.wrap c) (Int.tmod d 64))), true)
    else ((IntKind.u64.wrap (IntKind.u32.wrap (shr .i32 (IntKind.i32.wrap (IntKind.u32.wrap c)) (Int.tmod d 32)))), true))
  else if b = true then (if a = 0 then ((IntKind.u64.wrap (c + d)), true)
    else if a = 1 then ((IntKind.u64.wrap (c - d)), true)
    else if a = 2 then ((IntKind.u64.wrap (c * d)), true)
    else if a = 3 then (if d = 0 then (0, true)
      else ((IntKind.u64.wrap (Int.tdiv c d)), true))
    else if a = 9 then (if d = 0 then (c, true)
      else ((Int.tmod c d), true))
    else if a = 4 then ((Go.bits .or .u64 c d), true)
    else if a = 5 then ((Go.bits .and .u64 c d), true)
    else if a = 10 then ((Go.bits .xor .u64 c d), true)
    else if a = 6 then ((shl .u64 c (Int.tmod d 64)), true)
    else if a = 7 then ((shr .u64 c (Int.tmod d 64)), true)
    else if a = 8 then ((IntKind.u64.wrap (0 - c)), true)
    else if a = 11 then (d, true)
    else (0, false))
  else if a = 0 then ((IntKind.u64.wrap (IntKind.u32.wrap ((IntKind.u32.wrap c) + (IntKind.u32.wrap d)))), true)
  else if a = 1 then ((IntKind.u64.wrap (IntKind.u32.wrap ((IntKind.u32.wrap c) - (IntKind.u32.wrap d)))), true)
  else if a = 2 then ((IntKind.u64.wrap (IntKind.u32.wrap ((IntKind.u32.wrap c) * (IntKind.u32.wrap d)))), true)
  else if a = 3 then (if (IntKind.u32.wrap d) = 0 then (0, true)
    else ((IntKind.u64.wrap (IntKind.u32.wrap (Int.tdiv (IntKind.u32.wrap c) (IntKind.u32.wrap d)))), true))
  else if a = 9 then (if (IntKind.u32.wrap d) = 0 then ((IntKind.u64.wrap (IntKind.u32.wrap c)), true)
    else ((IntKind.u64.wrap (Int.tmod (IntKind.u32.wrap c) (IntKind.u32.wrap d))), true))
  else if a = 4 then ((IntKind.u64.wrap (Go.bits .or .u32 (IntKind.u32.wrap c) (IntKind.u32.wrap d))), true)
  else if a = 5 then ((IntKind.u64.wrap (Go.bits .and .u32 (IntKind.u32.wrap c) (IntKind.u32.wrap d))), true)
  else if a = 10 then ((IntKind.u64.wrap (Go.bits .xor .u32 (IntKind.u32.wrap c) (IntKind.u32.wrap d))), true)
  else if a = 6 then ((IntKind.u64.wrap (shl .u32 (IntKind.u32.wrap c) (Int.tmod (IntKind.u32.wrap d) 32))), true)
  else if a = 7 then ((IntKind.u64.wrap (shr .u32 (IntKind.u32.wrap c) (Int.tmod (IntKind.u32.wrap d) 32))), true)
  else if a = 8 then ((IntKind.u64.wrap (IntKind.u32.wrap (0 - (IntKind.u32.wrap c)))), true)
  else if a = 11 then ((IntKind.u64.wrap (IntKind.u32.wrap d)), true)
  else (0, false)
def lockgateref05_counter (a : Int) : Int :=
  if 1 = a then 5
  else if 5 = a then 1
  else if 2 = a then 11
  else if 11 = a then 2
  else if 3 = a then 10
  else if 10 = a then 3
  else if 6 = a then 13
  else if 13 = a then 6
  else if 7 = a then 12
  else if 12 = a then 7
  else 0
def span_FromT (a : Tn) : (Us × Ss) :=
  if (Go.bits .and .u64 a.m 9223372036854775808) = 0 then ((⟨a.v, (Go.bits .or .u64 a.v a.m)⟩ : Us), (⟨(IntKind.i64.wrap a.v), (IntKind.i64.wrap (Go.bits .or .u64 a.v a.m))⟩ : Ss))
  else ((⟨a.v, (Go.bits .or .u64 a.v a.m)⟩ : Us), (⟨(IntKind.i64.wrap (Go.bits .or .u64 a.v 9223372036854775808)), (IntKind.i64.wrap (Go.bits .or .u64 a.v (Go.bits .andNot .u64 a.m 9223372036854775808)))⟩ : Ss))
def tnum_Of (a : Int) : Tn :=
  (⟨a, 0⟩ : Tn)
def span_UOf (a : Int) : Us :=
  (⟨a, a⟩ : Us)
def span_SOf (a : Int) : Ss :=
  (⟨(IntKind.i64.wrap a), (IntKind.i64.wrap a)⟩ : Ss)
def lockgateref04_UOf (a : Int) : Us :=
  (⟨a, a⟩ : Us)
def lockgateref04_SOf (a : Int) : Ss :=
  (⟨(IntKind.i64.wrap a), (IntKind.i64.wrap a)⟩ : Ss)
def tnum_Any : Tn :=
  (⟨0, 18446744073709551615⟩ : Tn)
def span_UAll : Us :=
  (⟨0, 18446744073709551615⟩ : Us)
def span_SAll : Ss :=
  (⟨(-9223372036854775808), 9223372036854775807⟩ : Ss)
def lockgateref03_Any : Tn :=
  (⟨0, 18446744073709551615⟩ : Tn)
def lockgateref04_SAll : Ss :=
  (⟨(-9223372036854775808), 9223372036854775807⟩ : Ss)
def tnum_In (a : Tn) (b : Int) : Bool :=
  ((Go.bits .andNot .u64 b a.m) == a.v)
def lockgateref04_UIn (a : Us) (b : Int) : Bool :=
  if a.lo ≤ b then decide (b ≤ a.hi)
  else false
def lockgateref04_SIn (a : Ss) (b : Int) : Bool :=
  if a.lo ≤ (IntKind.i64.wrap b) then decide ((IntKind.i64.wrap b) ≤ a.hi)
  else false
def tnum_Within (a : Tn) (b : Tn) : Bool :=
  if (Go.bits .andNot .u64 a.m b.m) = 0 then (tnum_In b a.v)
  else false
def span_UWithin (a : Us) (b : Us) : Bool :=
  if b.lo ≤ a.lo then decide (a.hi ≤ b.hi)
  else false
def span_SWithin (a : Ss) (b : Ss) : Bool :=
  if b.lo ≤ a.lo then decide (a.hi ≤ b.hi)
  else false
def lockgateref04_UWithin (a : Us) (b : Us) : Bool :=
  if (lockgateref04_UIn b a.lo) = true then (lockgateref04_UIn b a.hi)
  else false
def lockgateref04_SWithin (a : Ss) (b : Ss) : Bool :=
  if b.lo ≤ a.lo then decide (a.hi ≤ b.hi)
  else false
def lockgateref04_UJoin (a : Us) (b : Us) : Us :=
  if b.lo < a.lo then (if a.hi < b.hi then b
    else (⟨b.lo, a.hi⟩ : Us))
  else if a.hi < b.hi then (⟨a.lo, b.hi⟩ : Us)
  else a
def lockgateref04_SJoin (a : Ss) (b : Ss) : Ss :=
  if b.lo < a.lo then (if a.hi < b.hi then b
    else (⟨b.lo, a.hi⟩ : Ss))
  else if a.hi < b.hi then (⟨a.lo, b.hi⟩ : Ss)
  else a
def tnum_Cut (a : Tn) (b : Int) : Tn :=
  if 8 ≤ b then a
  else if b < 1 then (tnum_Of 0)
  else (⟨(Go.bits .andNot .u64 a.v (shl .u64 18446744073709551615 (IntKind.i64.wrap (8 * b)))), (Go.bits .andNot .u64 a.m (shl .u64 18446744073709551615 (IntKind.i64.wrap (8 * b))))⟩ : Tn)
def span_UCut (a : Us) : Us :=
  if (shr .u64 a.lo 32) = (shr .u64 a.hi 32) then (⟨(Go.bits .and .u64 a.lo 4294967295), (Go.bits .and .u64 a.hi 4294967295)⟩ : Us)
  else (⟨0, 4294967295⟩ : Us)
def tnum_Lsh (a : Tn) (b : Int) : Tn :=
  (⟨(shl .u64 a.v (Int.tmod (IntKind.u64.wrap b) 64)), (shl .u64 a.m (Int.tmod (IntKind.u64.wrap b) 64))⟩ : Tn)
def span_ULsh (a : Us) (b : Int) : Us :=
  if (shr .u64 (shl .u64 a.hi (Go.bits .and .i64 b 63)) (Go.bits .and .i64 b 63)) = a.hi then (⟨(shl .u64 a.lo (Go.bits .and .i64 b 63)), (shl .u64 a.hi (Go.bits .and .i64 b 63))⟩ : Us)
  else span_UAll
def tnum_Rsh (a : Tn) (b : Int) : Tn :=
  (⟨(shr .u64 a.v (Int.tmod (IntKind.u64.wrap b) 64)), (shr .u64 a.m (Int.tmod (IntKind.u64.wrap b) 64))⟩ : Tn)
def span_URsh (a : Us) (b : Int) : Us :=
  (⟨(shr .u64 a.lo (Go.bits .and .i64 b 63)), (shr .u64 a.hi (Go.bits .and .i64 b 63))⟩ : Us)
def tnum_Arsh (a : Tn) (b : Int) (c : Int) : Tn :=
  if c = 64 then (⟨(IntKind.u64.wrap (shr .i64 (IntKind.i64.wrap a.v) (Int.tmod (IntKind.u64.wrap b) 64))), (IntKind.u64.wrap (shr .i64 (IntKind.i64.wrap a.m) (Int.tmod (IntKind.u64.wrap b) 64)))⟩ : Tn)
  else if c = 32 then (⟨(IntKind.u64.wrap (IntKind.u32.wrap (shr .i32 (IntKind.i32.wrap (IntKind.u32.wrap a.v)) (Int.tmod (IntKind.u64.wrap b) 32)))), (IntKind.u64.wrap (IntKind.u32.wrap (shr .i32 (IntKind.i32.wrap (IntKind.u32.wrap a.m)) (Int.tmod (IntKind.u64.wrap b) 32))))⟩ : Tn)
  else tnum_Any
def span_SArsh (a : Ss) (b : Int) : Ss :=
  (⟨(shr .i64 a.lo (Go.bits .and .i64 b 63)), (shr .i64 a.hi (Go.bits .and .i64 b 63))⟩ : Ss)
def span_UAdd (a : Us) (b : Us) : Us :=
  if (IntKind.u64.wrap (a.hi + b.hi)) < a.hi then span_UAll
  else (⟨(IntKind.u64.wrap (a.lo + b.lo)), (IntKind.u64.wrap (a.hi + b.hi))⟩ : Us)
def span_USub (a : Us) (b : Us) : Us :=
  if a.lo < b.hi then span_UAll
  else (⟨(IntKind.u64.wrap (a.lo - b.hi)), (IntKind.u64.wrap (a.hi - b.lo))⟩ : Us)
def tnum_Or (a : Tn) (b : Tn) : Tn :=
  (⟨(Go.bits .or .u64 a.v b.v), (Go.bits .andNot .u64 (Go.bits .or .u64 a.m b.m) (Go.bits .or .u64 a.v b.v))⟩ : Tn)
def tnum_And (a : Tn) (b : Tn) : Tn :=
  (⟨(Go.bits .and .u64 a.v b.v), (Go.bits .andNot .u64 (Go.bits .and .u64 (Go.bits .or .u64 a.v a.m) (Go.bits .or .u64 b.v b.m)) (Go.bits .and .u64 a.v b.v))⟩ : Tn)
def lockgateref01_Low (a : Int) (b : Int) : Int :=
  if 64 ≤ b then a
  else (Int.tmod a (shl .u64 1 (IntKind.u64.wrap b)))
def lockgateref03_Cut (a : Tn) (b : Int) : Tn :=
  if 8 ≤ b then a
  else if b < 1 then (lockgateref03_Of 0)
  else (⟨(Go.bits .and .u64 a.v (IntKind.u64.wrap ((shl .u64 1 (IntKind.u64.wrap (IntKind.i64.wrap (8 * b)))) - 1))), (Go.bits .and .u64 a.m (IntKind.u64.wrap ((shl .u64 1 (IntKind.u64.wrap (IntKind.i64.wrap (8 * b)))) - 1)))⟩ : Tn)
def lockgateref04_UCut (a : Us) : Us :=
  if (IntKind.u64.wrap (Int.tdiv a.lo 4294967296)) = (IntKind.u64.wrap (Int.tdiv a.hi 4294967296)) then (⟨(Int.tmod a.lo 4294967296), (Int.tmod a.hi 4294967296)⟩ : Us)
  else (⟨0, 4294967295⟩ : Us)
def lockgateref04_UAdd (a : Us) (b : Us) : Us :=
  if (IntKind.u64.wrap (lockgateref04_UAll.hi - b.hi)) < a.hi then lockgateref04_UAll
  else (⟨(IntKind.u64.wrap (a.lo + b.lo)), (IntKind.u64.wrap (a.hi + b.hi))⟩ : Us)
def lockgateref03_Sub (a : Tn) (b : Tn) : Tn :=
  (lockgateref03_without (IntKind.u64.wrap (a.v - b.v)) (Go.bits .or .u64 (Go.bits .or .u64 (Go.bits .xor .u64 (IntKind.u64.wrap ((IntKind.u64.wrap (a.v - b.v)) + a.m)) (IntKind.u64.wrap ((IntKind.u64.wrap (a.v - b.v)) - b.m))) a.m) b.m))
def lockgateref04_USub (a : Us) (b : Us) : Us :=
  if a.lo < b.hi then lockgateref04_UAll
  else (⟨(IntKind.u64.wrap (a.lo - b.hi)), (IntKind.u64.wrap (a.hi - b.lo))⟩ : Us)
def lockgateref04_UMul (a : Us) (b : Us) : Us :=
  if b.hi = 0 then (⟨(IntKind.u64.wrap (a.lo * b.lo)), (IntKind.u64.wrap (a.hi * b.hi))⟩ : Us)
  else if (IntKind.u64.wrap (Int.tdiv lockgateref04_UAll.hi b.hi)) < a.hi then lockgateref04_UAll
  else (⟨(IntKind.u64.wrap (a.lo * b.lo)), (IntKind.u64.wrap (a.hi * b.hi))⟩ : Us)
def lockgateref03_Or (a : Tn) (b : Tn) : Tn :=
  (⟨(Go.bits .or .u64 a.v b.v), (Go.bits .andNot .u64 (Go.bits .or .u64 a.m b.m) (Go.bits .or .u64 a.v b.v))⟩ : Tn)
def lockgateref03_And (a : Tn) (b : Tn) : Tn :=
  (⟨(Go.bits .and .u64 a.v b.v), (Go.bits .andNot .u64 (Go.bits .and .u64 (Go.bits .or .u64 a.v a.m) (Go.bits .or .u64 b.v b.m)) (Go.bits .and .u64 a.v b.v))⟩ : Tn)
def lockgateref03_Xor (a : Tn) (b : Tn) : Tn :=
  (lockgateref03_without (Go.bits .xor .u64 a.v b.v) (Go.bits .or .u64 a.m b.m))
def word_order_uint64 (a : Int) (b : Int) : Int :=
  if a < b then (-1)
  else if b < a then 1
  else 0
def word_order_int64 (a : Int) (b : Int) : Int :=
  if a < b then (-1)
  else if b < a then 1
  else 0
def scalar_without (a : Sc) (b : Int) : (Sc × Bool) :=
  if ((a.u.lo == (span_UOf b).lo) && (a.u.hi == (span_UOf b).hi)) = true then (a, false)
  else if ((a.s.lo == (span_SOf b).lo) && (a.s.hi == (span_SOf b).hi)) = true then (a, false)
  else if b = a.u.lo then (if (IntKind.i64.wrap b) = a.s.lo then ((⟨a.t, (⟨(IntKind.u64.wrap (a.u.lo + 1)), a.u.hi⟩ : Us), (⟨(IntKind.i64.wrap (a.s.lo + 1)), a.s.hi⟩ : Ss)⟩ : Sc), true)
    else if (IntKind.i64.wrap b) = a.s.hi then ((⟨a.t, (⟨(IntKind.u64.wrap (a.u.lo + 1)), a.u.hi⟩ : Us), (⟨a.s.lo, (IntKind.i64.wrap (a.s.hi - 1))⟩ : Ss)⟩ : Sc), true)
    else ((⟨a.t, (⟨(IntKind.u64.wrap (a.u.lo + 1)), a.u.hi⟩ : Us), a.s⟩ : Sc), true))
  else if b = a.u.hi then (if (IntKind.i64.wrap b) = a.s.lo then ((⟨a.t, (⟨a.u.lo, (IntKind.u64.wrap (a.u.hi - 1))⟩ : Us), (⟨(IntKind.i64.wrap (a.s.lo + 1)), a.s.hi⟩ : Ss)⟩ : Sc), true)
    else if (IntKind.i64.wrap b) = a.s.hi then ((⟨a.t, (⟨a.u.lo, (IntKind.u64.wrap (a.u.hi - 1))⟩ : Us), (⟨a.s.lo, (IntKind.i64.wrap (a.s.hi - 1))⟩ : Ss)⟩ : Sc), true)
    else ((⟨a.t, (⟨a.u.lo, (IntKind.u64.wrap (a.u.hi - 1))⟩ : Us), a.s⟩ : Sc), true))
  else if (IntKind.i64.wrap b) = a.s.lo then ((⟨a.t, a.u, (⟨(IntKind.i64.wrap (a.s.lo + 1)), a.s.hi⟩ : Ss)⟩ : Sc), true)
  else if (IntKind.i64.wrap b) = a.s.hi then ((⟨a.t, a.u, (⟨a.s.lo, (IntKind.i64.wrap (a.s.hi - 1))⟩ : Ss)⟩ : Sc), true)
  else (a, true)
def lockgateref05_without (a : Sc) (b : Int) : (Sc × Bool) :=
  if a.u.lo = a.u.hi then (if a.u.lo = b then (a, false)
    else if a.s.lo = a.s.hi then (if a.s.lo = (IntKind.i64.wrap b) then (a, false)
      else if a.u.hi = b then (if a.s.hi = (IntKind.i64.wrap b) then ((⟨a.t, (⟨a.u.lo, (IntKind.u64.wrap (b - 1))⟩ : Us), (⟨a.s.lo, (IntKind.i64.wrap ((IntKind.i64.wrap b) - 1))⟩ : Ss)⟩ : Sc), true)
        else ((⟨a.t, (⟨a.u.lo, (IntKind.u64.wrap (b - 1))⟩ : Us), a.s⟩ : Sc), true))
      else if a.s.hi = (IntKind.i64.wrap b) then ((⟨a.t, a.u, (⟨a.s.lo, (IntKind.i64.wrap ((IntKind.i64.wrap b) - 1))⟩ : Ss)⟩ : Sc), true)
      else (a, true))
    else if a.u.hi = b then (if a.s.lo = (IntKind.i64.wrap b) then ((⟨a.t, (⟨a.u.lo, (IntKind.u64.wrap (b - 1))⟩ : Us), (⟨(IntKind.i64.wrap ((IntKind.i64.wrap b) + 1)), a.s.hi⟩ : Ss)⟩ : Sc), true)
      else if a.s.hi = (IntKind.i64.wrap b) then ((⟨a.t, (⟨a.u.lo, (IntKind.u64.wrap (b - 1))⟩ : Us), (⟨a.s.lo, (IntKind.i64.wrap ((IntKind.i64.wrap b) - 1))⟩ : Ss)⟩ : Sc), true)
      else ((⟨a.t, (⟨a.u.lo, (IntKind.u64.wrap (b - 1))⟩ : Us), a.s⟩ : Sc), true))
    else if a.s.lo = (IntKind.i64.wrap b) then ((⟨a.t, a.u, (⟨(IntKind.i64.wrap ((IntKind.i64.wrap b) + 1)), a.s.hi⟩ : Ss)⟩ : Sc), true)
    else if a.s.hi = (IntKind.i64.wrap b) then ((⟨a.t, a.u, (⟨a.s.lo, (IntKind.i64.wrap ((IntKind.i64.wrap b) - 1))⟩ : Ss)⟩ : Sc), true)
    else (a, true))
  else if a.s.lo = a.s.hi then (if a.s.lo = (IntKind.i64.wrap b) then (a, false)
    else if a.u.lo = b then (if a.s.hi = (IntKind.i64.wrap b) then ((⟨a.t, (⟨(IntKind.u64.wrap (b + 1)), a.u.hi⟩ : Us), (⟨a.s.lo, (IntKind.i64.wrap ((IntKind.i64.wrap b) - 1))⟩ : Ss)⟩ : Sc), true)
      else ((⟨a.t, (⟨(IntKind.u64.wrap (b + 1)), a.u.hi⟩ : Us), a.s⟩ : Sc), true))
    else if a.u.hi = b then (if a.s.hi = (IntKind.i64.wrap b) then ((⟨a.t, (⟨a.u.lo, (IntKind.u64.wrap (b - 1))⟩ : Us), (⟨a.s.lo, (IntKind.i64.wrap ((IntKind.i64.wrap b) - 1))⟩ : Ss)⟩ : Sc), true)
      else ((⟨a.t, (⟨a.u.lo, (IntKind.u64.wrap (b - 1))⟩ : Us), a.s⟩ : Sc), true))
    else if a.s.hi = (IntKind.i64.wrap b) then ((⟨a.t, a.u, (⟨a.s.lo, (IntKind.i64.wrap ((IntKind.i64.wrap b) - 1))⟩ : Ss)⟩ : Sc), true)
    else (a, true))
  else if a.u.lo = b then (if a.s.lo = (IntKind.i64.wrap b) then ((⟨a.t, (⟨(IntKind.u64.wrap (b + 1)), a.u.hi⟩ : Us), (⟨(IntKind.i64.wrap ((IntKind.i64.wrap b) + 1)), a.s.hi⟩ : Ss)⟩ : Sc), true)
    else if a.s.hi = (IntKind.i64.wrap b) then ((⟨a.t, (⟨(IntKind.u64.wrap (b + 1)), a.u.hi⟩ : Us), (⟨a.s.lo, (IntKind.i64.wrap ((IntKind.i64.wrap b) - 1))⟩ : Ss)⟩ : Sc), true)
    else ((⟨a.t, (⟨(IntKind.u64.wrap (b + 1)), a.u.hi⟩ : Us), a.s⟩ : Sc), true))
  else if a.u.hi = b then (if a.s.lo = (IntKind.i64.wrap b) then ((⟨a.t, (⟨a.u.lo, (IntKind.u64.wrap (b - 1))⟩ : Us), (⟨(IntKind.i64.wrap ((IntKind.i64.wrap b) + 1)), a.s.hi⟩ : Ss)⟩ : Sc), true)
    else if a.s.hi = (IntKind.i64.wrap b) then ((⟨a.t, (⟨a.u.lo, (IntKind.u64.wrap (b - 1))⟩ : Us), (⟨a.s.lo, (IntKind.i64.wrap ((IntKind.i64.wrap b) - 1))⟩ : Ss)⟩ : Sc), true)
    else ((⟨a.t, (⟨a.u.lo, (IntKind.u64.wrap (b - 1))⟩ : Us), a.s⟩ : Sc), true))
  else if a.s.lo = (IntKind.i64.wrap b) then ((⟨a.t, a.u, (⟨(IntKind.i64.wrap ((IntKind.i64.wrap b) + 1)), a.s.hi⟩ : Ss)⟩ : Sc), true)
  else if a.s.hi = (IntKind.i64.wrap b) then ((⟨a.t, a.u, (⟨a.s.lo, (IntKind.i64.wrap ((IntKind.i64.wrap b) - 1))⟩ : Ss)⟩ : Sc), true)
  else (a, true)
def lockgateref05_less (a : Us) (b : Us) (c : Bool) : (Us × Us × Bool) :=
  if c = true then (if b.hi < 0 then (a, b, false)
    else if 18446744073709551615 < a.lo then (a, b, false)
    else if a.lo ≤ (if (IntKind.u64.wrap (b.hi - 0)) < a.hi then (IntKind.u64.wrap (b.hi - 0)) else a.hi) then ((⟨a.lo, (if (IntKind.u64.wrap (b.hi - 0)) < a.hi then (IntKind.u64.wrap (b.hi - 0)) else a.hi)⟩ : Us), (⟨(if (IntKind.u64.wrap (a.lo + 0)) > b.lo then (IntKind.u64.wrap (a.lo + 0)) else b.lo), b.hi⟩ : Us), decide ((if (IntKind.u64.wrap (a.lo + 0)) > b.lo then (IntKind.u64.wrap (a.lo + 0)) else b.lo) ≤ b.hi))
    else ((⟨a.lo, (if (IntKind.u64.wrap (b.hi - 0)) < a.hi then (IntKind.u64.wrap (b.hi - 0)) else a.hi)⟩ : Us), (⟨(if (IntKind.u64.wrap (a.lo + 0)) > b.lo then (IntKind.u64.wrap (a.lo + 0)) else b.lo), b.hi⟩ : Us), false))
  else if b.hi < 1 then (a, b, false)
  else if 18446744073709551614 < a.lo then (a, b, false)
  else if a.lo ≤ (if (IntKind.u64.wrap (b.hi - 1)) < a.hi then (IntKind.u64.wrap (b.hi - 1)) else a.hi) then ((⟨a.lo, (if (IntKind.u64.wrap (b.hi - 1)) < a.hi then (IntKind.u64.wrap (b.hi - 1)) else a.hi)⟩ : Us), (⟨(if (IntKind.u64.wrap (a.lo + 1)) > b.lo then (IntKind.u64.wrap (a.lo + 1)) else b.lo), b.hi⟩ : Us), decide ((if (IntKind.u64.wrap (a.lo + 1)) > b.lo then (IntKind.u64.wrap (a.lo + 1)) else b.lo) ≤ b.hi))
  else ((⟨a.lo, (if (IntKind.u64.wrap (b.hi - 1)) < a.hi then (IntKind.u64.wrap (b.hi - 1)) else a.hi)⟩ : Us), (⟨(if (IntKind.u64.wrap (a.lo + 1)) > b.lo then (IntKind.u64.wrap (a.lo + 1)) else b.lo), b.hi⟩ : Us), false)
def lockgateref05_under (a : Ss) (b : Ss) (c : Bool) : (Ss × Ss × Bool) :=
  if c = true then (if b.hi < (-9223372036854775808) then (a, b, false)
    else if 9223372036854775807 < a.lo then (a, b, false)
    else if a.lo ≤ (if (IntKind.i64.wrap (b.hi - 0)) < a.hi then (IntKind.i64.wrap (b.hi - 0)) else a.hi) then ((⟨a.lo, (if (IntKind.i64.wrap (b.hi - 0)) < a.hi then (IntKind.i64.wrap (b.hi - 0)) else a.hi)⟩ : Ss), (⟨(if (IntKind.i64.wrap (a.lo + 0)) > b.lo then (IntKind.i64.wrap (a.lo + 0)) else b.lo), b.hi⟩ : Ss), decide ((if (IntKind.i64.wrap (a.lo + 0)) > b.lo then (IntKind.i64.wrap (a.lo + 0)) else b.lo) ≤ b.hi))
    else ((⟨a.lo, (if (IntKind.i64.wrap (b.hi - 0)) < a.hi then (IntKind.i64.wrap (b.hi - 0)) else a.hi)⟩ : Ss), (⟨(if (IntKind.i64.wrap (a.lo + 0)) > b.lo then (IntKind.i64.wrap (a.lo + 0)) else b.lo), b.hi⟩ : Ss), false))
  else if b.hi < (-9223372036854775807) then (a, b, false)
  else if 9223372036854775806 < a.lo then (a, b, false)
  else if a.lo ≤ (if (IntKind.i64.wrap (b.hi - 1)) < a.hi then (IntKind.i64.wrap (b.hi - 1)) else a.hi) then ((⟨a.lo, (if (IntKind.i64.wrap (b.hi - 1)) < a.hi then (IntKind.i64.wrap (b.hi - 1)) else a.hi)⟩ : Ss), (⟨(if (IntKind.i64.wrap (a.lo + 1)) > b.lo then (IntKind.i64.wrap (a.lo + 1)) else b.lo), b.hi⟩ : Ss), decide ((if (IntKind.i64.wrap (a.lo + 1)) > b.lo then (IntKind.i64.wrap (a.lo + 1)) else b.lo) ≤ b.hi))
  else ((⟨a.lo, (if (IntKind.i64.wrap (b.hi - 1)) < a.hi then (IntKind.i64.wrap (b.hi - 1)) else a.hi)⟩ : Ss), (⟨(if (IntKind.i64.wrap (a.lo + 1)) > b.lo then (IntKind.i64.wrap (a.lo + 1)) else b.lo), b.hi⟩ : Ss), false)
def span_meet_uint64 (a : Int) (b : Int) (c : Int) (d : Int) : (Int × Int × Bool) :=
  ((if c > a then c else a), (if d < b then d else b), decide ((if c > a then c else a) ≤ (if d < b then d else b)))
def span_meet_int64 (a : Int) (b : Int) (c : Int) (d : Int) : (Int × Int × Bool) :=
  ((if c > a then c else a), (if d < b then d else b), decide ((if c > a then c else a) ≤ (if d < b then d else b)))
def tnum_clear (a : Int) (b : Int) : Tn :=
  (⟨(Go.bits .andNot .u64 a b), b⟩ : Tn)
def span_below (a : Int) : Int :=
  (IntKind.u64.wrap ((shl .u64 1 (bits_Len64 a)) - 1))
def lockgateref04_UMeet (a : Us) (b : Us) : (Us × Bool) :=
  if a.lo < b.lo then (if b.hi < a.hi then (if b.hi < b.lo then ((⟨0, 0⟩ : Us), false)
      else (b, true))
    else if a.hi < b.lo then ((⟨0, 0⟩ : Us), false)
    else ((⟨b.lo, a.hi⟩ : Us), true))
  else if b.hi < a.hi then (if b.hi < a.lo then ((⟨0, 0⟩ : Us), false)
    else ((⟨a.lo, b.hi⟩ : Us), true))
  else if a.hi < a.lo then ((⟨0, 0⟩ : Us), false)
  else (a, true)
def lockgateref04_ToU (a : Ss) : Us :=
  if a.lo < 0 then (if 0 ≤ a.hi then lockgateref04_UAll
    else (⟨(IntKind.u64.wrap a.lo), (IntKind.u64.wrap a.hi)⟩ : Us))
  else (⟨(IntKind.u64.wrap a.lo), (IntKind.u64.wrap a.hi)⟩ : Us)
def lockgateref04_FromT (a : Tn) : (Us × Ss) :=
  if a.m < lockgateref04_top then ((⟨a.v, (IntKind.u64.wrap (a.v + a.m))⟩ : Us), (⟨(IntKind.i64.wrap a.v), (IntKind.i64.wrap (IntKind.u64.wrap (a.v + a.m)))⟩ : Ss))
  else ((⟨a.v, (IntKind.u64.wrap (a.v + a.m))⟩ : Us), (⟨(IntKind.i64.wrap (IntKind.u64.wrap (a.v + lockgateref04_top))), (IntKind.i64.wrap (IntKind.u64.wrap (a.v + (IntKind.u64.wrap (a.m - lockgateref04_top)))))⟩ : Ss))
def lockgateref04_SMeet (a : Ss) (b : Ss) : (Ss × Bool) :=
  if a.lo < b.lo then (if b.hi < a.hi then (if b.hi < b.lo then ((⟨0, 0⟩ : Ss), false)
      else (b, true))
    else if a.hi < b.lo then ((⟨0, 0⟩ : Ss), false)
    else ((⟨b.lo, a.hi⟩ : Ss), true))
  else if b.hi < a.hi then (if b.hi < a.lo then ((⟨0, 0⟩ : Ss), false)
    else ((⟨a.lo, b.hi⟩ : Ss), true))
  else if a.hi < a.lo then ((⟨0, 0⟩ : Ss), false)
  else (a, true)
def lockgateref04_ToS (a : Us) : Ss :=
  if ((decide (a.lo < lockgateref04_top)) == (decide (a.hi < lockgateref04_top))) = true then (⟨(IntKind.i64.wrap a.lo), (IntKind.i64.wrap a.hi)⟩ : Ss)
  else lockgateref04_SAll
def span_between_uint64 (a : Int) (b : Int) (c : Int) : Bool :=
  if a ≤ b then decide (b ≤ c)
  else false
def span_between_int64 (a : Int) (b : Int) (c : Int) : Bool :=
  if a ≤ b then decide (b ≤ c)
  else false
def span_join_uint64 (a : Int) (b : Int) (c : Int) (d : Int) : (Int × Int) :=
  ((if c < a then c else a), (if d > b then d else b))
def span_join_int64 (a : Int) (b : Int) (c : Int) (d : Int) : (Int × Int) :=
  ((if c < a then c else a), (if d > b then d else b))
def span_sum (a : Int) (b : Int) : (Int × Bool) :=
  ((IntKind.i64.wrap (a + b)), ((decide ((IntKind.i64.wrap (a + b)) < a)) == (decide (b < 0))))
def span_ends (a : Int) (b : Bool) (c : Int) (d : Bool) : Ss :=
  if b = true then (if d = true then (⟨a, c⟩ : Ss)
    else span_SAll)
  else span_SAll
def span_less (a : Int) (b : Int) : (Int × Bool) :=
  ((IntKind.i64.wrap (a - b)), ((decide (a < (IntKind.i64.wrap (a - b)))) == (decide (b < 0))))
def bits_Mul64 (a : Int) (b : Int) : (Int × Int) :=
  ((IntKind.u64.wrap ((IntKind.u64.wrap ((IntKind.u64.wrap ((shr .u64 a 32) * (shr .u64 b 32))) + (shr .u64 (IntKind.u64.wrap ((IntKind.u64.wrap ((shr .u64 a 32) * (Go.bits .and .u64 b 4294967295))) + (shr .u64 (IntKind.u64.wrap ((Go.bits .and .u64 a 4294967295) * (Go.bits .and .u64 b 4294967295))) 32))) 32))) + (shr .u64 (IntKind.u64.wrap ((Go.bits .and .u64 (IntKind.u64.wrap ((IntKind.u64.wrap ((shr .u64 a 32) * (Go.bits .and .u64 b 4294967295))) + (shr .u64 (IntKind.u64.wrap ((Go.bits .and .u64 a 4294967295) * (Go.bits .and .u64 b 4294967295))) 32))) 4294967295) + (IntKind.u64.wrap ((Go.bits .and .u64 a 4294967295) * (shr .u64 b 32))))) 32))), (IntKind.u64.wrap (a * b)))
def span_alone (a : Us) : Bool :=
  (a.lo == a.hi)
def lockgateref03_count (a : Int) (b : Int) : Int :=
  if (Int.tmod a b) < 0 then (IntKind.u64.wrap (IntKind.i64.wrap ((Int.tmod a b) + b)))
  else (IntKind.u64.wrap (Int.tmod a b))
def lockgateref04_over (a : Int) (b : Int) : Bool :=
  if 0 < b then (if (IntKind.i64.wrap (lockgateref04_SAll.hi - b)) < a then true
    else if b < 0 then decide (a < (IntKind.i64.wrap (lockgateref04_SAll.lo - b)))
    else false)
  else if b < 0 then decide (a < (IntKind.i64.wrap (lockgateref04_SAll.lo - b)))
  else false
def lockgateref04_under (a : Int) (b : Int) : Bool :=
  if b < 0 then (if (IntKind.i64.wrap (lockgateref04_SAll.hi + b)) < a then true
    else if 0 < b then decide (a < (IntKind.i64.wrap (lockgateref04_SAll.lo + b)))
    else false)
  else if 0 < b then decide (a < (IntKind.i64.wrap (lockgateref04_SAll.lo + b)))
  else false
def lockgateref04_alone (a : Us) : Bool :=
  (a.lo == a.hi)
def scalar_below_int64 (a : Int) (b : Int) (c : Int) (d : Int) (e : Int) (g : Int) (i : Bool) : (Int × Int × Bool) :=
  if i = true then ((if d < b then d else b), (if a > c then a else c), decide (a ≤ d))
  else if d = e then (0, 0, false)
  else if a = g then (0, 0, false)
  else ((if (IntKind.i64.wrap (d - 1)) < b then (IntKind.i64.wrap (d - 1)) else b), (if (IntKind.i64.wrap (a + 1)) > c then (IntKind.i64.wrap (a + 1)) else c), decide (a < d))
def scalar_below_uint64 (a : Int) (b : Int) (c : Int) (d : Int) (e : Int) (g : Int) (i : Bool) : (Int × Int × Bool) :=
  if i = true then ((if d < b then d else b), (if a > c then a else c), decide (a ≤ d))
  else if d = e then (0, 0, false)
  else if a = g then (0, 0, false)
  else ((if (IntKind.u64.wrap (d - 1)) < b then (IntKind.u64.wrap (d - 1)) else b), (if (IntKind.u64.wrap (a + 1)) > c then (IntKind.u64.wrap (a + 1)) else c), decide (a < d))
def scalar_Of (a : Int) : Sc :=
  (⟨(tnum_Of a), (span_UOf a), (span_SOf a)⟩ : Sc)
def lockgateref05_Of (a : Int) : Sc :=
  (⟨(lockgateref03_Of a), (lockgateref04_UOf a), (lockgateref04_SOf a)⟩ : Sc)
def scalar_Any : Sc :=
  (⟨tnum_Any, span_UAll, span_SAll⟩ : Sc)
def lockgateref05_Any : Sc :=
  (⟨lockgateref03_Any, lockgateref04_UAll, lockgateref04_SAll⟩ : Sc)
def scalar_Upto (a : Int) : Sc :=
  if 8 ≤ a then scalar_Any
  else if a < 1 then (scalar_Of 0)
  else (⟨(⟨0, (IntKind.u64.wrap ((shl .u64 1 (IntKind.i64.wrap (8 * a))) - 1))⟩ : Tn), (⟨0, (IntKind.u64.wrap ((shl .u64 1 (IntKind.i64.wrap (8 * a))) - 1))⟩ : Us), (⟨0, (IntKind.i64.wrap (IntKind.u64.wrap ((shl .u64 1 (IntKind.i64.wrap (8 * a))) - 1)))⟩ : Ss)⟩ : Sc)
def lockgateref05_Upto (a : Int) : Sc :=
  if 8 ≤ a then lockgateref05_Any
  else if a < 1 then (lockgateref05_Of 0)
  else (⟨(⟨0, (IntKind.u64.wrap ((shl .u64 1 (IntKind.u64.wrap (IntKind.i64.wrap (8 * a)))) - 1))⟩ : Tn), (⟨0, (IntKind.u64.wrap ((shl .u64 1 (IntKind.u64.wrap (IntKind.i64.wrap (8 * a)))) - 1))⟩ : Us), (⟨0, (IntKind.i64.wrap (IntKind.u64.wrap ((shl .u64 1 (IntKind.u64.wrap (IntKind.i64.wrap (8 * a)))) - 1)))⟩ : Ss)⟩ : Sc)
def lockgateref05_In (a : Sc) (b : Int) : Bool :=
  if (lockgateref03_In a.t b) = true then (if (lockgateref04_UIn a.u b) = true then (lockgateref04_SIn a.s b)
    else false)
  else false
def scalar_Within (a : Sc) (b : Sc) : Bool :=
  if (tnum_Within a.t b.t) = true then (if (span_UWithin a.u b.u) = true then (span_SWithin a.s b.s)
    else false)
  else false
def lockgateref05_Within (a : Sc) (b : Sc) : Bool :=
  if (lockgateref03_Within a.t b.t) = true then (if (lockgateref04_UWithin a.u b.u) = true then (lockgateref04_SWithin a.s b.s)
    else false)
  else false
def lockgateref05_Join (a : Sc) (b : Sc) : Sc :=
  (⟨(lockgateref03_Join a.t b.t), (lockgateref04_UJoin a.u b.u), (lockgateref04_SJoin a.s b.s)⟩ : Sc)
def scalar_shift (a : Int) (b : Bool) (c : Sc) (d : Int) : Sc :=
  if a = 6 then (⟨(tnum_Lsh c.t d), (span_ULsh c.u d), scalar_Any.s⟩ : Sc)
  else if a = 7 then (⟨(tnum_Rsh c.t d), (span_URsh c.u d), scalar_Any.s⟩ : Sc)
  else if b = true then (⟨(tnum_Arsh c.t d 64), scalar_Any.u, (span_SArsh c.s d)⟩ : Sc)
  else if c.u.hi < 2147483648 then (⟨(tnum_Arsh c.t d 32), (span_URsh c.u d), scalar_Any.s⟩ : Sc)
  else (⟨(tnum_Arsh c.t d 32), scalar_Any.u, scalar_Any.s⟩ : Sc)
def lockgateref01_Alu (a : Int) (b : Bool) (c : Int) (d : Int) : (Int × Bool) :=
  if b = true then (if a = 0 then ((lockgateref01_Low (lockgateref01_add (lockgateref01_Low c 64) (lockgateref01_Low d 64) 0) 64), true)
    else if a = 1 then ((lockgateref01_Low (lockgateref01_add (lockgateref01_Low c 64) (lockgateref01_not (lockgateref01_Low d 64)) 1) 64), true)
    else if a = 2 then ((lockgateref01_Low (lockgateref01_times (lockgateref01_Low c 64) (lockgateref01_Low d 64)) 64), true)
    else if a = 3 then (if 0 < (lockgateref01_Low d 64) then (if a = 9 then ((lockgateref01_Low ((lockgateref01_divide (lockgateref01_Low c 64) (lockgateref01_Low d 64)).2) 64), true)
        else ((lockgateref01_Low ((lockgateref01_divide (lockgateref01_Low c 64) (lockgateref01_Low d 64)).1) 64), true))
      else if a = 9 then ((lockgateref01_Low (lockgateref01_Low c 64) 64), true)
      else ((lockgateref01_Low 0 64), true))
    else if a = 9 then (if 0 < (lockgateref01_Low d 64) then ((lockgateref01_Low ((lockgateref01_divide (lockgateref01_Low c 64) (lockgateref01_Low d 64)).2) 64), true)
      else ((lockgateref01_Low (lockgateref01_Low c 64) 64), true))
    else if a = 4 then ((lockgateref01_Low (lockgateref01_bits a (lockgateref01_Low c 64) (lockgateref01_Low d 64)) 64), true)
    else if a = 5 then ((lockgateref01_Low (lockgateref01_bits a (lockgateref01_Low c 64) (lockgateref01_Low d 64)) 64), true)
    else if a = 10 then ((lockgateref01_Low (lockgateref01_bits a (lockgateref01_Low c 64) (lockgateref01_Low d 64)) 64), true)
    else if a = 6 then ((lockgateref01_Low (shl .u64 (lockgateref01_Low c 64) (IntKind.u64.wrap (IntKind.i64.wrap (Int.tmod (lockgateref01_Low d 64) 64)))) 64), true)
    else if a = 7 then ((lockgateref01_Low (lockgateref01_down (lockgateref01_Low c 64) (IntKind.i64.wrap (Int.tmod (lockgateref01_Low d 64) 64)) 64 0) 64), true)
    else if a = 8 then ((lockgateref01_Low (lockgateref01_add 0 (lockgateref01_not (lockgateref01_Low c 64)) 1) 64), true)
    else if a = 11 then ((lockgateref01_Low (lockgateref01_Low d 64) 64), true)
    else if a = 12 then ((lockgateref01_Low (lockgateref01_down (lockgateref01_Low c 64) (IntKind.i64.wrap (Int.tmod (lockgateref01_Low d 64) 64)) 64 (lockgateref01_bit (lockgateref01_Low c 64) 63)) 64), true)
    else (0, false))
  else if a = 0 then ((lockgateref01_Low (lockgateref01_add (lockgateref01_Low c 32) (lockgateref01_Low d 32) 0) 32), true)
  else if a = 1 then ((lockgateref01_Low (lockgateref01_add (lockgateref01_Low c 32) (lockgateref01_not (lockgateref01_Low d 32)) 1) 32), true)
  else if a = 2 then ((lockgateref01_Low (lockgateref01_times (lockgateref01_Low c 32) (lockgateref01_Low d 32)) 32), true)
  else if a = 3 then (if 0 < (lockgateref01_Low d 32) then (if a = 9 then ((lockgateref01_Low ((lockgateref01_divide (lockgateref01_Low c 32) (lockgateref01_Low d 32)).2) 32), true)
      else ((lockgateref01_Low ((lockgateref01_divide (lockgateref01_Low c 32) (lockgateref01_Low d 32)).1) 32), true))
    else if a = 9 then ((lockgateref01_Low (lockgateref01_Low c 32) 32), true)
    else ((lockgateref01_Low 0 32), true))
  else if a = 9 then (if 0 < (lockgateref01_Low d 32) then ((lockgateref01_Low ((lockgateref01_divide (lockgateref01_Low c 32) (lockgateref01_Low d 32)).2) 32), true)
    else ((lockgateref01_Low (lockgateref01_Low c 32) 32), true))
  else if a = 4 then ((lockgateref01_Low (lockgateref01_bits a (lockgateref01_Low c 32) (lockgateref01_Low d 32)) 32), true)
  else if a = 5 then ((lockgateref01_Low (lockgateref01_bits a (lockgateref01_Low c 32) (lockgateref01_Low d 32)) 32), true)
  else if a = 10 then ((lockgateref01_Low (lockgateref01_bits a (lockgateref01_Low c 32) (lockgateref01_Low d 32)) 32), true)
  else if a = 6 then ((lockgateref01_Low (shl .u64 (lockgateref01_Low c 32) (IntKind.u64.wrap (IntKind.i64.wrap (Int.tmod (lockgateref01_Low d 32) 32)))) 32), true)
  else if a = 7 then ((lockgateref01_Low (lockgateref01_down (lockgateref01_Low c 32) (IntKind.i64.wrap (Int.tmod (lockgateref01_Low d 32) 32)) 32 0) 32), true)
  else if a = 8 then ((lockgateref01_Low (lockgateref01_add 0 (lockgateref01_not (lockgateref01_Low c 32)) 1) 32), true)
  else if a = 11 then ((lockgateref01_Low (lockgateref01_Low d 32) 32), true)
  else if a = 12 then ((lockgateref01_Low (lockgateref01_down (lockgateref01_Low c 32) (IntKind.i64.wrap (Int.tmod (lockgateref01_Low d 32) 32)) 32 (lockgateref01_bit (lockgateref01_Low c 32) 31)) 32), true)
  else (0, false)
def word_Jump (a : Int) (b : Bool) (c : Int) (d : Int) : (Bool × Bool) :=
  if b = true then (if a = 1 then (((word_order_uint64 c d) == 0), true)
    else if a = 5 then (((word_order_uint64 c d) != 0), true)
    else if a = 2 then (decide (0 < (word_order_uint64 c d)), true)
    else if a = 3 then (decide (0 ≤ (word_order_uint64 c d)), true)
    else if a = 10 then (decide ((word_order_uint64 c d) < 0), true)
    else if a = 11 then (decide ((word_order_uint64 c d) ≤ 0), true)
    else if a = 6 then (decide (0 < (word_order_int64 (IntKind.i64.wrap c) (IntKind.i64.wrap d))), true)
    else if a = 7 then (decide (0 ≤ (word_order_int64 (IntKind.i64.wrap c) (IntKind.i64.wrap d))), true)
    else if a = 12 then (decide ((word_order_int64 (IntKind.i64.wrap c) (IntKind.i64.wrap d)) < 0), true)
    else if a = 13 then (decide ((word_order_int64 (IntKind.i64.wrap c) (IntKind.i64.wrap d)) ≤ 0), true)
    else if a = 4 then (((Go.bits .and .u64 c d) != 0), true)
    else (false, false))
  else if a = 1 then (((word_order_uint64 (IntKind.u64.wrap (IntKind.u32.wrap c)) (IntKind.u64.wrap (IntKind.u32.wrap d))) == 0), true)
  else if a = 5 then (((word_order_uint64 (IntKind.u64.wrap (IntKind.u32.wrap c)) (IntKind.u64.wrap (IntKind.u32.wrap d))) != 0), true)
  else if a = 2 then (decide (0 < (word_order_uint64 (IntKind.u64.wrap (IntKind.u32.wrap c)) (IntKind.u64.wrap (IntKind.u32.wrap d)))), true)
  else if a = 3 then (decide (0 ≤ (word_order_uint64 (IntKind.u64.wrap (IntKind.u32.wrap c)) (IntKind.u64.wrap (IntKind.u32.wrap d)))), true)
  else if a = 10 then (decide ((word_order_uint64 (IntKind.u64.wrap (IntKind.u32.wrap c)) (IntKind.u64.wrap (IntKind.u32.wrap d))) < 0), true)
  else if a = 11 then (decide ((word_order_uint64 (IntKind.u64.wrap (IntKind.u32.wrap c)) (IntKind.u64.wrap (IntKind.u32.wrap d))) ≤ 0), true)
  else if a = 6 then (decide (0 < (word_order_int64 (IntKind.i64.wrap (IntKind.i32.wrap (IntKind.u32.wrap (IntKind.u64.wrap (IntKind.u32.wrap c))))) (IntKind.i64.wrap (IntKind.i32.wrap (IntKind.u32.wrap (IntKind.u64.wrap (IntKind.u32.wrap d))))))), true)
  else if a = 7 then (decide (0 ≤ (word_order_int64 (IntKind.i64.wrap (IntKind.i32.wrap (IntKind.u32.wrap (IntKind.u64.wrap (IntKind.u32.wrap c))))) (IntKind.i64.wrap (IntKind.i32.wrap (IntKind.u32.wrap (IntKind.u64.wrap (IntKind.u32.wrap d))))))), true)
  else if a = 12 then (decide ((word_order_int64 (IntKind.i64.wrap (IntKind.i32.wrap (IntKind.u32.wrap (IntKind.u64.wrap (IntKind.u32.wrap c))))) (IntKind.i64.wrap (IntKind.i32.wrap (IntKind.u32.wrap (IntKind.u64.wrap (IntKind.u32.wrap d)))))) < 0), true)
  else if a = 13 then (decide ((word_order_int64 (IntKind.i64.wrap (IntKind.i32.wrap (IntKind.u32.wrap (IntKind.u64.wrap (IntKind.u32.wrap c))))) (IntKind.i64.wrap (IntKind.i32.wrap (IntKind.u32.wrap (IntKind.u64.wrap (IntKind.u32.wrap d)))))) ≤ 0), true)
  else if a = 4 then (((Go.bits .and .u64 (IntKind.u64.wrap (IntKind.u32.wrap c)) (IntKind.u64.wrap (IntKind.u32.wrap d))) != 0), true)
  else (false, false)
def lockgateref01_Jump (a : Int) (b : Bool) (c : Int) (d : Int) : (Bool × Bool) :=
  if b = true then (if a = 1 then (((lockgateref01_order (lockgateref01_Low c 64) (lockgateref01_Low d 64) 64 false) == 0), true)
    else if a = 2 then (decide (0 < (lockgateref01_order (lockgateref01_Low c 64) (lockgateref01_Low d 64) 64 false)), true)
    else if a = 3 then (decide (0 ≤ (lockgateref01_order (lockgateref01_Low c 64) (lockgateref01_Low d 64) 64 false)), true)
    else if a = 4 then (decide (0 < (lockgateref01_bits 5 (lockgateref01_Low c 64) (lockgateref01_Low d 64))), true)
    else if a = 5 then (((lockgateref01_order (lockgateref01_Low c 64) (lockgateref01_Low d 64) 64 false) != 0), true)
    else if a = 6 then (decide (0 < (lockgateref01_order (lockgateref01_Low c 64) (lockgateref01_Low d 64) 64 true)), true)
    else if a = 7 then (decide (0 ≤ (lockgateref01_order (lockgateref01_Low c 64) (lockgateref01_Low d 64) 64 true)), true)
    else if a = 10 then (decide ((lockgateref01_order (lockgateref01_Low c 64) (lockgateref01_Low d 64) 64 false) < 0), true)
    else if a = 11 then (decide ((lockgateref01_order (lockgateref01_Low c 64) (lockgateref01_Low d 64) 64 false) ≤ 0), true)
    else if a = 12 then (decide ((lockgateref01_order (lockgateref01_Low c 64) (lockgateref01_Low d 64) 64 true) < 0), true)
    else if a = 13 then (decide ((lockgateref01_order (lockgateref01_Low c 64) (lockgateref01_Low d 64) 64 true) ≤ 0), true)
    else (false, false))
  else if a = 1 then (((lockgateref01_order (lockgateref01_Low c 32) (lockgateref01_Low d 32) 32 false) == 0), true)
  else if a = 2 then (decide (0 < (lockgateref01_order (lockgateref01_Low c 32) (lockgateref01_Low d 32) 32 false)), true)
  else if a = 3 then (decide (0 ≤ (lockgateref01_order (lockgateref01_Low c 32) (lockgateref01_Low d 32) 32 false)), true)
  else if a = 4 then (decide (0 < (lockgateref01_bits 5 (lockgateref01_Low c 32) (lockgateref01_Low d 32))), true)
  else if a = 5 then (((lockgateref01_order (lockgateref01_Low c 32) (lockgateref01_Low d 32) 32 false) != 0), true)
  else if a = 6 then (decide (0 < (lockgateref01_order (lockgateref01_Low c 32) (lockgateref01_Low d 32) 32 true)), true)
  else if a = 7 then (decide (0 ≤ (lockgateref01_order (lockgateref01_Low c 32) (lockgateref01_Low d 32) 32 true)), true)
  else if a = 10 then (decide ((lockgateref01_order (lockgateref01_Low c 32) (lockgateref01_Low d 32) 32 false) < 0), true)
  else if a = 11 then (decide ((lockgateref01_order (lockgateref01_Low c 32) (lockgateref01_Low d 32) 32 false) ≤ 0), true)
  else if a = 12 then (decide ((lockgateref01_order (lockgateref01_Low c 32) (lockgateref01_Low d 32) 32 true) < 0), true)
  else if a = 13 then (decide ((lockgateref01_order (lockgateref01_Low c 32) (lockgateref01_Low d 32) 32 true) ≤ 0), true)
  else (false, false)
def span_UMeet (a : Us) (b : Us) : (Us × Bool) :=
  if (span_meet_uint64 a.lo a.hi b.lo b.hi).2.2 = true then ((⟨(span_meet_uint64 a.lo a.hi b.lo b.hi).1, (span_meet_uint64 a.lo a.hi b.lo b.hi).2.1⟩ : Us), true)
  else ((⟨0, 0⟩ : Us), false)
def span_ToU (a : Ss) : Us :=
  if ((decide (a.lo < 0)) == (decide (a.hi < 0))) = true then (⟨(IntKind.u64.wrap a.lo), (IntKind.u64.wrap a.hi)⟩ : Us)
  else span_UAll
def span_SMeet (a : Ss) (b : Ss) : (Ss × Bool) :=
  if (span_meet_int64 a.lo a.hi b.lo b.hi).2.2 = true then ((⟨(span_meet_int64 a.lo a.hi b.lo b.hi).1, (span_meet_int64 a.lo a.hi b.lo b.hi).2.1⟩ : Ss), true)
  else ((⟨0, 0⟩ : Ss), false)
def span_ToS (a : Us) : Ss :=
  if (shr .u64 a.lo 63) = (shr .u64 a.hi 63) then (⟨(IntKind.i64.wrap a.lo), (IntKind.i64.wrap a.hi)⟩ : Ss)
  else span_SAll
def tnum_Meet (a : Tn) (b : Tn) : (Tn × Bool) :=
  if (Go.bits .andNot .u64 (Go.bits .xor .u64 a.v b.v) (Go.bits .or .u64 a.m b.m)) = 0 then ((tnum_clear (Go.bits .or .u64 a.v b.v) (Go.bits .and .u64 a.m b.m)), true)
  else ((⟨0, 0⟩ : Tn), false)
def span_ToT (a : Us) : Tn :=
  (⟨(Go.bits .andNot .u64 a.lo (span_below (Go.bits .xor .u64 a.lo a.hi))), (span_below (Go.bits .xor .u64 a.lo a.hi))⟩ : Tn)
def lockgateref05_once (a : Sc) : (Sc × Bool) :=
  if (lockgateref04_UMeet a.u (lockgateref04_ToU a.s)).2 = true then (if (lockgateref04_UMeet ((lockgateref04_UMeet a.u (lockgateref04_ToU a.s)).1) ((lockgateref04_FromT a.t).1)).2 = true then (if (lockgateref04_SMeet a.s (lockgateref04_ToS ((lockgateref04_UMeet ((lockgateref04_UMeet a.u (lockgateref04_ToU a.s)).1) ((lockgateref04_FromT a.t).1)).1))).2 = true then (if (lockgateref04_SMeet ((lockgateref04_SMeet a.s (lockgateref04_ToS ((lockgateref04_UMeet ((lockgateref04_UMeet a.u (lockgateref04_ToU a.s)).1) ((lockgateref04_FromT a.t).1)).1))).1) ((lockgateref04_FromT a.t).2)).2 = true then (if (lockgateref03_Meet a.t (lockgateref04_ToT ((lockgateref04_UMeet ((lockgateref04_UMeet a.u (lockgateref04_ToU a.s)).1) ((lockgateref04_FromT a.t).1)).1))).2 = true then ((⟨((lockgateref03_Meet a.t (lockgateref04_ToT ((lockgateref04_UMeet ((lockgateref04_UMeet a.u (lockgateref04_ToU a.s)).1) ((lockgateref04_FromT a.t).1)).1))).1), ((lockgateref04_UMeet ((lockgateref04_UMeet a.u (lockgateref04_ToU a.s)).1) ((lockgateref04_FromT a.t).1)).1), ((lockgateref04_SMeet ((lockgateref04_SMeet a.s (lockgateref04_ToS ((lockgateref04_UMeet ((lockgateref04_UMeet a.u (lockgateref04_ToU a.s)).1) ((lockgateref04_FromT a.t).1)).1))).1) ((lockgateref04_FromT a.t).2)).1)⟩ : Sc), true)
          else ((⟨(⟨0, 0⟩ : Tn), (⟨0, 0⟩ : Us), (⟨0, 0⟩ : Ss)⟩ : Sc), false))
        else ((⟨(⟨0, 0⟩ : Tn), (⟨0, 0⟩ : Us), (⟨0, 0⟩ : Ss)⟩ : Sc), false))
      else ((⟨(⟨0, 0⟩ : Tn), (⟨0, 0⟩ : Us), (⟨0, 0⟩ : Ss)⟩ : Sc), false))
    else ((⟨(⟨0, 0⟩ : Tn), (⟨0, 0⟩ : Us), (⟨0, 0⟩ : Ss)⟩ : Sc), false))
  else ((⟨(⟨0, 0⟩ : Tn), (⟨0, 0⟩ : Us), (⟨0, 0⟩ : Ss)⟩ : Sc), false)
def span_UIn (a : Us) (b : Int) : Bool :=
  (span_between_uint64 a.lo b a.hi)
def span_SIn (a : Ss) (b : Int) : Bool :=
  (span_between_int64 a.lo (IntKind.i64.wrap b) a.hi)
def tnum_Join (a : Tn) (b : Tn) : Tn :=
  if ((a.v == b.v) && (a.m == b.m)) = true then a
  else (tnum_clear a.v (Go.bits .or .u64 (Go.bits .or .u64 a.m b.m) (Go.bits .xor .u64 a.v b.v)))
def span_UJoin (a : Us) (b : Us) : Us :=
  (⟨(span_join_uint64 a.lo a.hi b.lo b.hi).1, (span_join_uint64 a.lo a.hi b.lo b.hi).2⟩ : Us)
def span_SJoin (a : Ss) (b : Ss) : Ss :=
  (⟨(span_join_int64 a.lo a.hi b.lo b.hi).1, (span_join_int64 a.lo a.hi b.lo b.hi).2⟩ : Ss)
def tnum_Add (a : Tn) (b : Tn) : Tn :=
  (tnum_clear (IntKind.u64.wrap (a.v + b.v)) (Go.bits .or .u64 (Go.bits .or .u64 (Go.bits .xor .u64 (IntKind.u64.wrap ((IntKind.u64.wrap ((IntKind.u64.wrap (a.v + b.v)) + a.m)) + b.m)) (IntKind.u64.wrap (a.v + b.v))) a.m) b.m))
def span_SAdd (a : Ss) (b : Ss) : Ss :=
  (span_ends ((span_sum a.lo b.lo).1) ((span_sum a.lo b.lo).2) ((span_sum a.hi b.hi).1) ((span_sum a.hi b.hi).2))
def tnum_Sub (a : Tn) (b : Tn) : Tn :=
  (tnum_clear (IntKind.u64.wrap (a.v - b.v)) (Go.bits .or .u64 (Go.bits .or .u64 (Go.bits .xor .u64 (IntKind.u64.wrap ((IntKind.u64.wrap (a.v - b.v)) + a.m)) (IntKind.u64.wrap ((IntKind.u64.wrap (a.v - b.v)) - b.m))) a.m) b.m))
def span_SSub (a : Ss) (b : Ss) : Ss :=
  (span_ends ((span_less a.lo b.hi).1) ((span_less a.lo b.hi).2) ((span_less a.hi b.lo).1) ((span_less a.hi b.lo).2))
def span_UMul (a : Us) (b : Us) : Us :=
  if (bits_Mul64 a.hi b.hi).1 = 0 then (⟨(IntKind.u64.wrap (a.lo * b.lo)), (bits_Mul64 a.hi b.hi).2⟩ : Us)
  else span_UAll
def span_UDiv (a : Us) (b : Us) : Us :=
  if (span_alone b) = true then (if b.lo = 0 then (⟨0, a.hi⟩ : Us)
    else (⟨(IntKind.u64.wrap (Int.tdiv a.lo b.lo)), (IntKind.u64.wrap (Int.tdiv a.hi b.lo))⟩ : Us))
  else (⟨0, a.hi⟩ : Us)
def span_UMod (a : Us) (b : Us) : Us :=
  if (span_alone b) = true then (if b.lo = 0 then (⟨0, a.hi⟩ : Us)
    else if a.hi < b.lo then a
    else if (span_alone a) = true then (span_UOf (Int.tmod a.lo b.lo))
    else (⟨0, (IntKind.u64.wrap (b.lo - 1))⟩ : Us))
  else (⟨0, a.hi⟩ : Us)
def span_UOr (a : Us) (b : Us) : Us :=
  if (span_alone a) = true then (if (span_alone b) = true then (span_UOf (Go.bits .or .u64 a.lo b.lo))
    else (⟨(if b.lo > a.lo then b.lo else a.lo), (span_below (Go.bits .or .u64 a.hi b.hi))⟩ : Us))
  else (⟨(if b.lo > a.lo then b.lo else a.lo), (span_below (Go.bits .or .u64 a.hi b.hi))⟩ : Us)
def span_UAnd (a : Us) (b : Us) : Us :=
  if (span_alone a) = true then (if (span_alone b) = true then (span_UOf (Go.bits .and .u64 a.lo b.lo))
    else (⟨0, (if b.hi < a.hi then b.hi else a.hi)⟩ : Us))
  else (⟨0, (if b.hi < a.hi then b.hi else a.hi)⟩ : Us)
def tnum_Xor (a : Tn) (b : Tn) : Tn :=
  (tnum_clear (Go.bits .xor .u64 a.v b.v) (Go.bits .or .u64 a.m b.m))
def lockgateref03_Lsh (a : Tn) (b : Int) : Tn :=
  (⟨(shl .u64 a.v (lockgateref03_count b 64)), (shl .u64 a.m (lockgateref03_count b 64))⟩ : Tn)
def lockgateref03_Rsh (a : Tn) (b : Int) : Tn :=
  (⟨(shr .u64 a.v (lockgateref03_count b 64)), (shr .u64 a.m (lockgateref03_count b 64))⟩ : Tn)
def lockgateref03_Arsh (a : Tn) (b : Int) (c : Int) : Tn :=
  if c = 32 then (⟨(lockgateref03_down a.v (lockgateref03_count b c) (IntKind.u64.wrap c)), (lockgateref03_down a.m (lockgateref03_count b c) (IntKind.u64.wrap c))⟩ : Tn)
  else if c = 64 then (⟨(lockgateref03_down a.v (lockgateref03_count b c) (IntKind.u64.wrap c)), (lockgateref03_down a.m (lockgateref03_count b c) (IntKind.u64.wrap c))⟩ : Tn)
  else lockgateref03_Any
def lockgateref04_SAdd (a : Ss) (b : Ss) : Ss :=
  if (lockgateref04_over a.lo b.lo) = true then lockgateref04_SAll
  else if (lockgateref04_over a.hi b.hi) = true then lockgateref04_SAll
  else (⟨(IntKind.i64.wrap (a.lo + b.lo)), (IntKind.i64.wrap (a.hi + b.hi))⟩ : Ss)
def lockgateref04_SSub (a : Ss) (b : Ss) : Ss :=
  if (lockgateref04_under a.lo b.hi) = true then lockgateref04_SAll
  else if (lockgateref04_under a.hi b.lo) = true then lockgateref04_SAll
  else (⟨(IntKind.i64.wrap (a.lo - b.hi)), (IntKind.i64.wrap (a.hi - b.lo))⟩ : Ss)
def lockgateref04_UDiv (a : Us) (b : Us) : Us :=
  if (lockgateref04_alone b) = true then (if b.lo = 0 then (⟨0, a.hi⟩ : Us)
    else (⟨(IntKind.u64.wrap (Int.tdiv a.lo b.lo)), (IntKind.u64.wrap (Int.tdiv a.hi b.lo))⟩ : Us))
  else (⟨0, a.hi⟩ : Us)
def lockgateref04_UMod (a : Us) (b : Us) : Us :=
  if (lockgateref04_alone b) = true then (if b.lo = 0 then (⟨0, a.hi⟩ : Us)
    else if a.hi < b.lo then a
    else if (lockgateref04_alone a) = true then (lockgateref04_UOf (IntKind.u64.wrap (a.lo - (IntKind.u64.wrap ((IntKind.u64.wrap (Int.tdiv a.lo b.lo)) * b.lo)))))
    else (⟨0, (IntKind.u64.wrap (b.lo - 1))⟩ : Us))
  else (⟨0, a.hi⟩ : Us)
def lockgateref04_UOr (a : Us) (b : Us) : Us :=
  if (lockgateref04_alone a) = true then (if (lockgateref04_alone b) = true then (lockgateref04_UOf (Go.bits .or .u64 a.lo b.lo))
    else if a.lo < b.lo then (if (lockgateref04_full a.hi) < (lockgateref04_full b.hi) then (⟨b.lo, (lockgateref04_full b.hi)⟩ : Us)
      else (⟨b.lo, (lockgateref04_full a.hi)⟩ : Us))
    else if (lockgateref04_full a.hi) < (lockgateref04_full b.hi) then (⟨a.lo, (lockgateref04_full b.hi)⟩ : Us)
    else (⟨a.lo, (lockgateref04_full a.hi)⟩ : Us))
  else if a.lo < b.lo then (if (lockgateref04_full a.hi) < (lockgateref04_full b.hi) then (⟨b.lo, (lockgateref04_full b.hi)⟩ : Us)
    else (⟨b.lo, (lockgateref04_full a.hi)⟩ : Us))
  else if (lockgateref04_full a.hi) < (lockgateref04_full b.hi) then (⟨a.lo, (lockgateref04_full b.hi)⟩ : Us)
  else (⟨a.lo, (lockgateref04_full a.hi)⟩ : Us)
def lockgateref04_UAnd (a : Us) (b : Us) : Us :=
  if (lockgateref04_alone a) = true then (if (lockgateref04_alone b) = true then (lockgateref04_UOf (Go.bits .and .u64 a.lo b.lo))
    else if b.hi < a.hi then (⟨0, b.hi⟩ : Us)
    else (⟨0, a.hi⟩ : Us))
  else if b.hi < a.hi then (⟨0, b.hi⟩ : Us)
  else (⟨0, a.hi⟩ : Us)
def scalar_clear (a : Sc) (b : Int) : (Sc × Bool) :=
  ((⟨((tnum_Meet a.t (⟨0, (Go.bits .xor .u64 18446744073709551615 b)⟩ : Tn)).1), a.u, a.s⟩ : Sc), (tnum_Meet a.t (⟨0, (Go.bits .xor .u64 18446744073709551615 b)⟩ : Tn)).2)
def scalar_meet (a : Sc) (b : Sc) : (Sc × Bool) :=
  ((⟨((tnum_Meet a.t b.t).1), ((span_UMeet a.u b.u).1), ((span_SMeet a.s b.s).1)⟩ : Sc), ((((tnum_Meet a.t b.t).2) == true) && ((((span_UMeet a.u b.u).2) == true) && (((span_SMeet a.s b.s).2) == true))))
def scalar_less (a : Sc) (b : Sc) (c : Bool) (d : Bool) : (Sc × Sc × Bool) :=
  if c = true then ((⟨a.t, a.u, (⟨a.s.lo, (scalar_below_int64 a.s.lo a.s.hi b.s.lo b.s.hi (-9223372036854775808) 9223372036854775807 d).1⟩ : Ss)⟩ : Sc), (⟨b.t, b.u, (⟨(scalar_below_int64 a.s.lo a.s.hi b.s.lo b.s.hi (-9223372036854775808) 9223372036854775807 d).2.1, b.s.hi⟩ : Ss)⟩ : Sc), (scalar_below_int64 a.s.lo a.s.hi b.s.lo b.s.hi (-9223372036854775808) 9223372036854775807 d).2.2)
  else ((⟨a.t, (⟨a.u.lo, (scalar_below_uint64 a.u.lo a.u.hi b.u.lo b.u.hi 0 18446744073709551615 d).1⟩ : Us), a.s⟩ : Sc), (⟨b.t, (⟨(scalar_below_uint64 a.u.lo a.u.hi b.u.lo b.u.hi 0 18446744073709551615 d).2.1, b.u.hi⟩ : Us), b.s⟩ : Sc), (scalar_below_uint64 a.u.lo a.u.hi b.u.lo b.u.hi 0 18446744073709551615 d).2.2)
def lockgateref05_meet (a : Sc) (b : Sc) : (Sc × Bool) :=
  if (lockgateref03_Meet a.t b.t).2 = true then (if (lockgateref04_UMeet a.u b.u).2 = true then ((⟨((lockgateref03_Meet a.t b.t).1), ((lockgateref04_UMeet a.u b.u).1), ((lockgateref04_SMeet a.s b.s).1)⟩ : Sc), (lockgateref04_SMeet a.s b.s).2)
    else ((⟨((lockgateref03_Meet a.t b.t).1), ((lockgateref04_UMeet a.u b.u).1), ((lockgateref04_SMeet a.s b.s).1)⟩ : Sc), false))
  else ((⟨((lockgateref03_Meet a.t b.t).1), ((lockgateref04_UMeet a.u b.u).1), ((lockgateref04_SMeet a.s b.s).1)⟩ : Sc), false)
def scalar_Norm (a : Sc) : (Sc × Bool) :=
  if (span_UMeet a.u (span_ToU a.s)).2 = true then (if (span_UMeet ((span_UMeet a.u (span_ToU a.s)).1) ((span_FromT a.t).1)).2 = true then (if (span_SMeet a.s (span_ToS ((span_UMeet ((span_UMeet a.u (span_ToU a.s)).1) ((span_FromT a.t).1)).1))).2 = true then (if (span_SMeet ((span_SMeet a.s (span_ToS ((span_UMeet ((span_UMeet a.u (span_ToU a.s)).1) ((span_FromT a.t).1)).1))).1) ((span_FromT a.t).2)).2 = true then (if (tnum_Meet a.t (span_ToT ((span_UMeet ((span_UMeet a.u (span_ToU a.s)).1) ((span_FromT a.t).1)).1))).2 = true then (if (span_UMeet ((span_UMeet ((span_UMeet a.u (span_ToU a.s)).1) ((span_FromT a.t).1)).1) (span_ToU ((span_SMeet ((span_SMeet a.s (span_ToS ((span_UMeet ((span_UMeet a.u (span_ToU a.s)).1) ((span_FromT a.t).1)).1))).1) ((span_FromT a.t).2)).1))).2 = true then (if (span_UMeet ((span_UMeet ((span_UMeet ((span_UMeet a.u (span_ToU a.s)).1) ((span_FromT a.t).1)).1) (span_ToU ((span_SMeet ((span_SMeet a.s (span_ToS ((span_UMeet ((span_UMeet a.u (span_ToU a.s)).1) ((span_FromT a.t).1)).1))).1) ((span_FromT a.t).2)).1))).1) ((span_FromT ((tnum_Meet a.t (span_ToT ((span_UMeet ((span_UMeet a.u (span_ToU a.s)).1) ((span_FromT a.t).1)).1))).1)).1)).2 = true then (if (span_SMeet ((span_SMeet ((span_SMeet a.s (span_ToS ((span_UMeet ((span_UMeet a.u (span_ToU a.s)).1) ((span_FromT a.t).1)).1))).1) ((span_FromT a.t).2)).1) (span_ToS ((span_UMeet ((span_UMeet ((span_UMeet ((span_UMeet a.u (span_ToU a.s)).1) ((span_FromT a.t).1)).1) (span_ToU ((span_SMeet ((span_SMeet a.s (span_ToS ((span_UMeet ((span_UMeet a.u (span_ToU a.s)).1) ((span_FromT a.t).1)).1))).1) ((span_FromT a.t).2)).1))).1) ((span_FromT ((tnum_Meet a.t (span_ToT ((span_UMeet ((span_UMeet a.u (span_ToU a.s)).1) ((span_FromT a.t).1)).1))).1)).1)).1))).2 = true then (if (span_SMeet ((span_SMeet ((span_SMeet ((span_SMeet a.s (span_ToS ((span_UMeet ((span_UMeet a.u (span_ToU a.s)).1) ((span_FromT a.t).1)).1))).1) ((span_FromT a.t).2)).1) (span_ToS ((span_UMeet ((span_UMeet ((span_UMeet ((span_UMeet a.u (span_ToU a.s)).1) ((span_FromT a.t).1)).1) (span_ToU ((span_SMeet ((span_SMeet a.s (span_ToS ((span_UMeet ((span_UMeet a.u (span_ToU a.s)).1) ((span_FromT a.t).1)).1))).1) ((span_FromT a.t).2)).1))).1) ((span_FromT ((tnum_Meet a.t (span_ToT ((span_UMeet ((span_UMeet a.u (span_ToU a.s)).1) ((span_FromT a.t).1)).1))).1)).1)).1))).1) ((span_FromT ((tnum_Meet a.t (span_ToT ((span_UMeet ((span_UMeet a.u (span_ToU a.s)).1) ((span_FromT a.t).1)).1))).1)).2)).2 = true then (if (tnum_Meet ((tnum_Meet a.t (span_ToT ((span_UMeet ((span_UMeet a.u (span_ToU a.s)).1) ((span_FromT a.t).1)).1))).1) (span_ToT ((span_UMeet ((span_UMeet ((span_UMeet ((span_UMeet a.u (span_ToU a.s)).1) ((span_FromT a.t).1)).1) (span_ToU ((span_SMeet ((span_SMeet a.s (span_ToS ((span_UMeet ((span_UMeet a.u (span_ToU a.s)).1) ((span_FromT a.t).1)).1))).1) ((span_FromT a.t).2)).1))).1) ((span_FromT ((tnum_Meet a.t (span_ToT ((span_UMeet ((span_UMeet a.u (span_ToU a.s)).1) ((span_FromT a.t).1)).1))).1)).1)).1))).2 = true then ((⟨((tnum_Meet ((tnum_Meet a.t (span_ToT ((span_UMeet ((span_UMeet a.u (span_ToU a.s)).1) ((span_FromT a.t).1)).1))).1) (span_ToT ((span_UMeet ((span_UMeet ((span_UMeet ((span_UMeet a.u (span_ToU a.s)).1) ((span_FromT a.t).1)).1) (span_ToU ((span_SMeet ((span_SMeet a.s (span_ToS ((span_UMeet ((span_UMeet a.u (span_ToU a.s)).1) ((span_FromT a.t).1)).1))).1) ((span_FromT a.t).2)).1))).1) ((span_FromT ((tnum_Meet a.t (span_ToT ((span_UMeet ((span_UMeet a.u (span_ToU a.s)).1) ((span_FromT a.t).1)).1))).1)).1)).1))).1), ((span_UMeet ((span_UMeet ((span_UMeet ((span_UMeet a.u (span_ToU a.s)).1) ((span_FromT a.t).1)).1) (span_ToU ((span_SMeet ((span_SMeet a.s (span_ToS ((span_UMeet ((span_UMeet a.u (span_ToU a.s)).1) ((span_FromT a.t).1)).1))).1) ((span_FromT a.t).2)).1))).1) ((span_FromT ((tnum_Meet a.t (span_ToT ((span_UMeet ((span_UMeet a.u (span_ToU a.s)).1) ((span_FromT a.t).1)).1))).1)).1)).1), ((span_SMeet ((span_SMeet ((span_SMeet ((span_SMeet a.s (span_ToS ((span_UMeet ((span_UMeet a.u (span_ToU a.s)).1) ((span_FromT a.t).1)).1))).1) ((span_FromT a.t).2)).1) (span_ToS ((span_UMeet ((span_UMeet ((span_UMeet ((span_UMeet a.u (span_ToU a.s)).1) ((span_FromT a.t).1)).1) (span_ToU ((span_SMeet ((span_SMeet a.s (span_ToS ((span_UMeet ((span_UMeet a.u (span_ToU a.s)).1) ((span_FromT a.t).1)).1))).1) ((span_FromT a.t).2)).1))).1) ((span_FromT ((tnum_Meet a.t (span_ToT ((span_UMeet ((span_UMeet a.u (span_ToU a.s)).1) ((span_FromT a.t).1)).1))).1)).1)).1))).1) ((span_FromT ((tnum_Meet a.t (span_ToT ((span_UMeet ((span_UMeet a.u (span_ToU a.s)).1) ((span_FromT a.t).1)).1))).1)).2)).1)⟩ : Sc), true)
                    else ((⟨(⟨0, 0⟩ : Tn), (⟨0, 0⟩ : Us), (⟨0, 0⟩ : Ss)⟩ : Sc), false))
                  else ((⟨(⟨0, 0⟩ : Tn), (⟨0, 0⟩ : Us), (⟨0, 0⟩ : Ss)⟩ : Sc), false))
                else ((⟨(⟨0, 0⟩ : Tn), (⟨0, 0⟩ : Us), (⟨0, 0⟩ : Ss)⟩ : Sc), false))
              else ((⟨(⟨0, 0⟩ : Tn), (⟨0, 0⟩ : Us), (⟨0, 0⟩ : Ss)⟩ : Sc), false))
            else ((⟨(⟨0, 0⟩ : Tn), (⟨0, 0⟩ : Us), (⟨0, 0⟩ : Ss)⟩ : Sc), false))
          else ((⟨(⟨0, 0⟩ : Tn), (⟨0, 0⟩ : Us), (⟨0, 0⟩ : Ss)⟩ : Sc), false))
        else ((⟨(⟨0, 0⟩ : Tn), (⟨0, 0⟩ : Us), (⟨0, 0⟩ : Ss)⟩ : Sc), false))
      else ((⟨(⟨0, 0⟩ : Tn), (⟨0, 0⟩ : Us), (⟨0, 0⟩ : Ss)⟩ : Sc), false))
    else ((⟨(⟨0, 0⟩ : Tn), (⟨0, 0⟩ : Us), (⟨0, 0⟩ : Ss)⟩ : Sc), false))
  else ((⟨(⟨0, 0⟩ : Tn), (⟨0, 0⟩ : Us), (⟨0, 0⟩ : Ss)⟩ : Sc), false)
def lockgateref05_Norm (a : Sc) : (Sc × Bool) :=
  if (lockgateref05_once a).2 = true then (((lockgateref05_once ((lockgateref05_once a).1)).1), (lockgateref05_once ((lockgateref05_once a).1)).2)
  else ((⟨(⟨0, 0⟩ : Tn), (⟨0, 0⟩ : Us), (⟨0, 0⟩ : Ss)⟩ : Sc), false)
def scalar_In (a : Sc) (b : Int) : Bool :=
  if (tnum_In a.t b) = true then (if (span_UIn a.u b) = true then (span_SIn a.s b)
    else false)
  else false
def scalar_Join (a : Sc) (b : Sc) : Sc :=
  (⟨(tnum_Join a.t b.t), (span_UJoin a.u b.u), (span_SJoin a.s b.s)⟩ : Sc)
def scalar_settle (a : Sc) (b : Bool) : Sc :=
  if b = true then (if (scalar_Norm a).2 = true then ((scalar_Norm a).1)
    else (scalar_Upto 8))
  else if (scalar_Norm (⟨(tnum_Cut a.t 4), (span_UCut a.u), span_SAll⟩ : Sc)).2 = true then ((scalar_Norm (⟨(tnum_Cut a.t 4), (span_UCut a.u), span_SAll⟩ : Sc)).1)
  else (scalar_Upto 4)
def lockgateref05_Half (a : Sc) : Sc :=
  if (lockgateref05_Norm (⟨(lockgateref03_Cut a.t 4), (lockgateref04_UCut a.u), lockgateref04_SAll⟩ : Sc)).2 = true then ((lockgateref05_Norm (⟨(lockgateref03_Cut a.t 4), (lockgateref04_UCut a.u), lockgateref04_SAll⟩ : Sc)).1)
  else (lockgateref05_Upto 4)
def lockgateref05_settle (a : Sc) (b : Bool) : Sc :=
  if b = true then (if (lockgateref05_Norm a).2 = true then ((lockgateref05_Norm a).1)
    else lockgateref05_Any)
  else (lockgateref05_Half a)
def lockgateref05_shift (a : Int) (b : Bool) (c : Sc) (d : Int) : Sc :=
  if a = 6 then (⟨(lockgateref03_Lsh c.t d), (lockgateref04_ULsh c.u d), lockgateref05_Any.s⟩ : Sc)
  else if a = 7 then (⟨(lockgateref03_Rsh c.t d), (lockgateref04_URsh c.u d), lockgateref05_Any.s⟩ : Sc)
  else if b = true then (⟨(lockgateref03_Arsh c.t d 64), lockgateref05_Any.u, (lockgateref04_SArsh c.s d)⟩ : Sc)
  else if c.u.hi < 2147483648 then (⟨(lockgateref03_Arsh c.t d 32), (lockgateref04_URsh c.u d), lockgateref05_Any.s⟩ : Sc)
  else (⟨(lockgateref03_Arsh c.t d 32), lockgateref05_Any.u, lockgateref05_Any.s⟩ : Sc)
def lockgateref05_parts (a : Int) (b : Sc) (c : Sc) : Sc :=
  if a = 0 then (⟨(lockgateref03_Add b.t c.t), (lockgateref04_UAdd b.u c.u), (lockgateref04_SAdd b.s c.s)⟩ : Sc)
  else if a = 1 then (⟨(lockgateref03_Sub b.t c.t), (lockgateref04_USub b.u c.u), (lockgateref04_SSub b.s c.s)⟩ : Sc)
  else if a = 2 then (⟨(lockgateref03_Mul b.t c.t), (lockgateref04_UMul b.u c.u), lockgateref05_Any.s⟩ : Sc)
  else if a = 3 then (⟨lockgateref05_Any.t, (lockgateref04_UDiv b.u c.u), lockgateref05_Any.s⟩ : Sc)
  else if a = 9 then (⟨lockgateref05_Any.t, (lockgateref04_UMod b.u c.u), lockgateref05_Any.s⟩ : Sc)
  else if a = 4 then (⟨(lockgateref03_Or b.t c.t), (lockgateref04_UOr b.u c.u), lockgateref05_Any.s⟩ : Sc)
  else if a = 5 then (⟨(lockgateref03_And b.t c.t), (lockgateref04_UAnd b.u c.u), lockgateref05_Any.s⟩ : Sc)
  else if a = 10 then (⟨(lockgateref03_Xor b.t c.t), lockgateref05_Any.u, lockgateref05_Any.s⟩ : Sc)
  else lockgateref05_Any
def tnum_Mul_L (a : Tn) (b : Tn) : Nat → Int → Int → Int → Int → Int → Int → Option (Out (Int × Int × Int × Int × Int × Int) Tn)
  | 0, _, _, _, _, _, _ => none
  | n + 1, v0, v1, v2, v3, v4, v5 =>
    if ((v0 == 0) && (v1 == 0)) = true then some (.brk (v0, v1, v2, v3, v4, v5))
    else if (Go.bits .and .u64 v0 1) = 0 then (if (Go.bits .and .u64 v1 1) = 0 then tnum_Mul_L a b n ((tnum_Rsh (⟨v0, v1⟩ : Tn) 1).v) ((tnum_Rsh (⟨v0, v1⟩ : Tn) 1).m) ((tnum_Lsh (⟨v2, v3⟩ : Tn) 1).v) ((tnum_Lsh (⟨v2, v3⟩ : Tn) 1).m) v4 v5
        else tnum_Mul_L a b n ((tnum_Rsh (⟨v0, v1⟩ : Tn) 1).v) ((tnum_Rsh (⟨v0, v1⟩ : Tn) 1).m) ((tnum_Lsh (⟨v2, v3⟩ : Tn) 1).v) ((tnum_Lsh (⟨v2, v3⟩ : Tn) 1).m) ((tnum_Add (⟨v4, v5⟩ : Tn) (⟨0, (Go.bits .or .u64 v2 v3)⟩ : Tn)).v) ((tnum_Add (⟨v4, v5⟩ : Tn) (⟨0, (Go.bits .or .u64 v2 v3)⟩ : Tn)).m))
      else tnum_Mul_L a b n ((tnum_Rsh (⟨v0, v1⟩ : Tn) 1).v) ((tnum_Rsh (⟨v0, v1⟩ : Tn) 1).m) ((tnum_Lsh (⟨v2, v3⟩ : Tn) 1).v) ((tnum_Lsh (⟨v2, v3⟩ : Tn) 1).m) ((tnum_Add (⟨v4, v5⟩ : Tn) (⟨0, v3⟩ : Tn)).v) ((tnum_Add (⟨v4, v5⟩ : Tn) (⟨0, v3⟩ : Tn)).m)
def tnum_Mul_I (a : Tn) (b : Tn) (v0 : Int) (v1 : Int) (v2 : Int) (v3 : Int) (v4 : Int) (v5 : Int) : St := ⟨[.agg [.int .u64 a.v, .int .u64 a.m], .agg [.int .u64 b.v, .int .u64 b.m], .ptr 0 0, .ptr 1 0, .ptr 2 0, .ptr 3 0, .ptr 4 0, .ptr 0 0, .int .u64 a.v, .ptr 1 0, .int .u64 b.v, .int .u64 (IntKind.u64.wrap (a.v * b.v)), .agg [.int .u64 ((tnum_Of (IntKind.u64.wrap (a.v * b.v))).v), .int .u64 ((tnum_Of (IntKind.u64.wrap (a.v * b.v))).m)], .agg [.int .u64 ((tnum_Of 0).v), .int .u64 ((tnum_Of 0).m)], .any, .any, .any, .any, .any, .any, .any, .any, .any, .any, .any, .any, .any, .any, .any, .any, .any, .any, .any, .any, .any, .any, .any, .any, .any, .any, .any, .any, .any, .any, .any, .any, .any], [.cells [.int .u64 v0, .int .u64 v1], .cells [.int .u64 v2, .int .u64 v3], .cells [.int .u64 0, .int .u64 0], .cells [.int .u64 ((tnum_Of (IntKind.u64.wrap (a.v * b.v))).v), .int .u64 ((tnum_Of (IntKind.u64.wrap (a.v * b.v))).m)], .cells [.int .u64 v4, .int .u64 v5]]⟩
def tnum_Mul_F (r : Tn) : St := ⟨[.any, .any, .any, .any, .ptr 2 0, .any, .any, .any, .any, .any, .any, .any, .any, .any, .any, .any, .any, .any, .any, .any, .any, .any, .any, .any, .any, .any, .any, .any, .any, .any, .any, .any, .any, .any, .any, .any, .any, .any, .any, .any, .any, .any, .any, .any, .any, .any, .any], [.cells [.any, .any], .cells [.any, .any], .cells [.int .u64 r.v, .int .u64 r.m], .cells [.any, .any], .cells [.any, .any]]⟩
def tnum_Mul (a : Tn) (b : Tn) : Tn :=
  match tnum_Mul_L a b 66 a.v a.m b.v b.m ((tnum_Of 0).v) ((tnum_Of 0).m) with
  | some (.brk z) => (tnum_Add (tnum_Of (IntKind.u64.wrap (a.v * b.v))) (⟨z.2.2.2.2.1, z.2.2.2.2.2⟩ : Tn))
  | some (.ret r) => r
  | none => (⟨0, 0⟩ : Tn)
def scalar_Alu_0 (b : Bool) (c : Sc) (d : Sc) : Sc :=
  if b = true then (if (scalar_Is c).2 = true then (if (scalar_Is d).2 = true then (scalar_Of ((word_Alu 0 b ((scalar_Is c).1) ((scalar_Is d).1)).1))
      else (scalar_settle (⟨(tnum_Add c.t d.t), (span_UAdd c.u d.u), (span_SAdd c.s d.s)⟩ : Sc) b))
    else (scalar_settle (⟨(tnum_Add c.t d.t), (span_UAdd c.u d.u), (span_SAdd c.s d.s)⟩ : Sc) b))
  else if (scalar_Is (scalar_settle c false)).2 = true then (if (scalar_Is (scalar_settle d false)).2 = true then (scalar_Of ((word_Alu 0 b ((scalar_Is (scalar_settle c false)).1) ((scalar_Is (scalar_settle d false)).1)).1))
    else (scalar_settle (⟨(tnum_Add ((scalar_settle c false).t) ((scalar_settle d false).t)), (span_UAdd ((scalar_settle c false).u) ((scalar_settle d false).u)), (span_SAdd ((scalar_settle c false).s) ((scalar_settle d false).s))⟩ : Sc) b))
  else (scalar_settle (⟨(tnum_Add ((scalar_settle c false).t) ((scalar_settle d false).t)), (span_UAdd ((scalar_settle c false).u) ((scalar_settle d false).u)), (span_SAdd ((scalar_settle c false).s) ((scalar_settle d false).s))⟩ : Sc) b)
def scalar_Alu_1 (b : Bool) (c : Sc) (d : Sc) : Sc :=
  if b = true then (if (scalar_Is c).2 = true then (if (scalar_Is d).2 = true then (scalar_Of ((word_Alu 1 b ((scalar_Is c).1) ((scalar_Is d).1)).1))
      else (scalar_settle (⟨(tnum_Sub c.t d.t), (span_USub c.u d.u), (span_SSub c.s d.s)⟩ : Sc) b))
    else (scalar_settle (⟨(tnum_Sub c.t d.t), (span_USub c.u d.u), (span_SSub c.s d.s)⟩ : Sc) b))
  else if (scalar_Is (scalar_settle c false)).2 = true then (if (scalar_Is (scalar_settle d false)).2 = true then (scalar_Of ((word_Alu 1 b ((scalar_Is (scalar_settle c false)).1) ((scalar_Is (scalar_settle d false)).1)).1))
    else (scalar_settle (⟨(tnum_Sub ((scalar_settle c false).t) ((scalar_settle d false).t)), (span_USub ((scalar_settle c false).u) ((scalar_settle d false).u)), (span_SSub ((scalar_settle c false).s) ((scalar_settle d false).s))⟩ : Sc) b))
  else (scalar_settle (⟨(tnum_Sub ((scalar_settle c false).t) ((scalar_settle d false).t)), (span_USub ((scalar_settle c false).u) ((scalar_settle d false).u)), (span_SSub ((scalar_settle c false).s) ((scalar_settle d false).s))⟩ : Sc) b)
def scalar_Alu_2 (b : Bool) (c : Sc) (d : Sc) : Sc :=
  if b = true then (if (scalar_Is c).2 = true then (if (scalar_Is d).2 = true then (scalar_Of ((word_Alu 2 b ((scalar_Is c).1) ((scalar_Is d).1)).1))
      else (scalar_settle (⟨(tnum_Mul c.t d.t), (span_UMul c.u d.u), scalar_Any.s⟩ : Sc) b))
    else (scalar_settle (⟨(tnum_Mul c.t d.t), (span_UMul c.u d.u), scalar_Any.s⟩ : Sc) b))
  else if (scalar_Is (scalar_settle c false)).2 = true then (if (scalar_Is (scalar_settle d false)).2 = true then (scalar_Of ((word_Alu 2 b ((scalar_Is (scalar_settle c false)).1) ((scalar_Is (scalar_settle d false)).1)).1))
    else (scalar_settle (⟨(tnum_Mul ((scalar_settle c false).t) ((scalar_settle d false).t)), (span_UMul ((scalar_settle c false).u) ((scalar_settle d false).u)), scalar_Any.s⟩ : Sc) b))
  else (scalar_settle (⟨(tnum_Mul ((scalar_settle c false).t) ((scalar_settle d false).t)), (span_UMul ((scalar_settle c false).u) ((scalar_settle d false).u)), scalar_Any.s⟩ : Sc) b)
def scalar_Alu_3 (b : Bool) (c : Sc) (d : Sc) : Sc :=
  if b = true then (if (scalar_Is c).2 = true then (if (scalar_Is d).2 = true then (scalar_Of ((word_Alu 3 b ((scalar_Is c).1) ((scalar_Is d).1)).1))
      else (scalar_settle (⟨scalar_Any.t, (span_UDiv c.u d.u), scalar_Any.s⟩ : Sc) b))
    else (scalar_settle (⟨scalar_Any.t, (span_UDiv c.u d.u), scalar_Any.s⟩ : Sc) b))
  else if (scalar_Is (scalar_settle c false)).2 = true then (if (scalar_Is (scalar_settle d false)).2 = true then (scalar_Of ((word_Alu 3 b ((scalar_Is (scalar_settle c false)).1) ((scalar_Is (scalar_settle d false)).1)).1))
    else (scalar_settle (⟨scalar_Any.t, (span_UDiv ((scalar_settle c false).u) ((scalar_settle d false).u)), scalar_Any.s⟩ : Sc) b))
  else (scalar_settle (⟨scalar_Any.t, (span_UDiv ((scalar_settle c false).u) ((scalar_settle d false).u)), scalar_Any.s⟩ : Sc) b)
def scalar_Alu_4 (b : Bool) (c : Sc) (d : Sc) : Sc :=
  if b = true then (if (scalar_Is c).2 = true then (if (scalar_Is d).2 = true then (scalar_Of ((word_Alu 4 b ((scalar_Is c).1) ((scalar_Is d).1)).1))
      else (scalar_settle (⟨(tnum_Or c.t d.t), (span_UOr c.u d.u), scalar_Any.s⟩ : Sc) b))
    else (scalar_settle (⟨(tnum_Or c.t d.t), (span_UOr c.u d.u), scalar_Any.s⟩ : Sc) b))
  else if (scalar_Is (scalar_settle c false)).2 = true then (if (scalar_Is (scalar_settle d false)).2 = true then (scalar_Of ((word_Alu 4 b ((scalar_Is (scalar_settle c false)).1) ((scalar_Is (scalar_settle d false)).1)).1))
    else (scalar_settle (⟨(tnum_Or ((scalar_settle c false).t) ((scalar_settle d false).t)), (span_UOr ((scalar_settle c false).u) ((scalar_settle d false).u)), scalar_Any.s⟩ : Sc) b))
  else (scalar_settle (⟨(tnum_Or ((scalar_settle c false).t) ((scalar_settle d false).t)), (span_UOr ((scalar_settle c false).u) ((scalar_settle d false).u)), scalar_Any.s⟩ : Sc) b)
def scalar_Alu_5 (b : Bool) (c : Sc) (d : Sc) : Sc :=
  if b = true then (if (scalar_Is c).2 = true then (if (scalar_Is d).2 = true then (scalar_Of ((word_Alu 5 b ((scalar_Is c).1) ((scalar_Is d).1)).1))
      else (scalar_settle (⟨(tnum_And c.t d.t), (span_UAnd c.u d.u), scalar_Any.s⟩ : Sc) b))
    else (scalar_settle (⟨(tnum_And c.t d.t), (span_UAnd c.u d.u), scalar_Any.s⟩ : Sc) b))
  else if (scalar_Is (scalar_settle c false)).2 = true then (if (scalar_Is (scalar_settle d false)).2 = true then (scalar_Of ((word_Alu 5 b ((scalar_Is (scalar_settle c false)).1) ((scalar_Is (scalar_settle d false)).1)).1))
    else (scalar_settle (⟨(tnum_And ((scalar_settle c false).t) ((scalar_settle d false).t)), (span_UAnd ((scalar_settle c false).u) ((scalar_settle d false).u)), scalar_Any.s⟩ : Sc) b))
  else (scalar_settle (⟨(tnum_And ((scalar_settle c false).t) ((scalar_settle d false).t)), (span_UAnd ((scalar_settle c false).u) ((scalar_settle d false).u)), scalar_Any.s⟩ : Sc) b)
def scalar_Alu_6 (b : Bool) (c : Sc) (d : Sc) : Sc :=
  if b = true then (if (scalar_Is c).2 = true then (if (scalar_Is d).2 = true then (scalar_Of ((word_Alu 6 b ((scalar_Is c).1) ((scalar_Is d).1)).1))
      else (scalar_settle scalar_Any b))
    else if (scalar_Is d).2 = true then (scalar_settle (scalar_shift 6 b c (IntKind.i64.wrap (Int.tmod (scalar_Is d).1 64))) b)
    else (scalar_settle scalar_Any b))
  else if (scalar_Is (scalar_settle c false)).2 = true then (if (scalar_Is (scalar_settle d false)).2 = true then (scalar_Of ((word_Alu 6 b ((scalar_Is (scalar_settle c false)).1) ((scalar_Is (scalar_settle d false)).1)).1))
    else (scalar_settle scalar_Any b))
  else if (scalar_Is (scalar_settle d false)).2 = true then (scalar_settle (scalar_shift 6 b (scalar_settle c false) (IntKind.i64.wrap (Int.tmod (scalar_Is (scalar_settle d false)).1 32))) b)
  else (scalar_settle scalar_Any b)
def scalar_Alu_7 (b : Bool) (c : Sc) (d : Sc) : Sc :=
  if b = true then (if (scalar_Is c).2 = true then (if (scalar_Is d).2 = true then (scalar_Of ((word_Alu 7 b ((scalar_Is c).1) ((scalar_Is d).1)).1))
      else (scalar_settle scalar_Any b))
    else if (scalar_Is d).2 = true then (scalar_settle (scalar_shift 7 b c (IntKind.i64.wrap (Int.tmod (scalar_Is d).1 64))) b)
    else (scalar_settle scalar_Any b))
  else if (scalar_Is (scalar_settle c false)).2 = true then (if (scalar_Is (scalar_settle d false)).2 = true then (scalar_Of ((word_Alu 7 b ((scalar_Is (scalar_settle c false)).1) ((scalar_Is (scalar_settle d false)).1)).1))
    else (scalar_settle scalar_Any b))
  else if (scalar_Is (scalar_settle d false)).2 = true then (scalar_settle (scalar_shift 7 b (scalar_settle c false) (IntKind.i64.wrap (Int.tmod (scalar_Is (scalar_settle d false)).1 32))) b)
  else (scalar_settle scalar_Any b)
def scalar_Alu_9 (b : Bool) (c : Sc) (d : Sc) : Sc :=
  if b = true then (if (scalar_Is c).2 = true then (if (scalar_Is d).2 = true then (scalar_Of ((word_Alu 9 b ((scalar_Is c).1) ((scalar_Is d).1)).1))
      else (scalar_settle (⟨scalar_Any.t, (span_UMod c.u d.u), scalar_Any.s⟩ : Sc) b))
    else (scalar_settle (⟨scalar_Any.t, (span_UMod c.u d.u), scalar_Any.s⟩ : Sc) b))
  else if (scalar_Is (scalar_settle c false)).2 = true then (if (scalar_Is (scalar_settle d false)).2 = true then (scalar_Of ((word_Alu 9 b ((scalar_Is (scalar_settle c false)).1) ((scalar_Is (scalar_settle d false)).1)).1))
    else (scalar_settle (⟨scalar_Any.t, (span_UMod ((scalar_settle c false).u) ((scalar_settle d false).u)), scalar_Any.s⟩ : Sc) b))
  else (scalar_settle (⟨scalar_Any.t, (span_UMod ((scalar_settle c false).u) ((scalar_settle d false).u)), scalar_Any.s⟩ : Sc) b)
def scalar_Alu_10 (b : Bool) (c : Sc) (d : Sc) : Sc :=
  if b = true then (if (scalar_Is c).2 = true then (if (scalar_Is d).2 = true then (scalar_Of ((word_Alu 10 b ((scalar_Is c).1) ((scalar_Is d).1)).1))
      else (scalar_settle (⟨(tnum_Xor c.t d.t), scalar_Any.u, scalar_Any.s⟩ : Sc) b))
    else (scalar_settle (⟨(tnum_Xor c.t d.t), scalar_Any.u, scalar_Any.s⟩ : Sc) b))
  else if (scalar_Is (scalar_settle c false)).2 = true then (if (scalar_Is (scalar_settle d false)).2 = true then (scalar_Of ((word_Alu 10 b ((scalar_Is (scalar_settle c false)).1) ((scalar_Is (scalar_settle d false)).1)).1))
    else (scalar_settle (⟨(tnum_Xor ((scalar_settle c false).t) ((scalar_settle d false).t)), scalar_Any.u, scalar_Any.s⟩ : Sc) b))
  else (scalar_settle (⟨(tnum_Xor ((scalar_settle c false).t) ((scalar_settle d false).t)), scalar_Any.u, scalar_Any.s⟩ : Sc) b)
def scalar_Alu_11 (b : Bool) (c : Sc) (d : Sc) : Sc :=
  if b = true then (if (scalar_Is c).2 = true then (if (scalar_Is d).2 = true then (scalar_Of ((word_Alu 11 b ((scalar_Is c).1) ((scalar_Is d).1)).1))
      else d)
    else if (scalar_Is d).2 = true then (scalar_Of ((word_Alu 11 b ((scalar_Is c).1) ((scalar_Is d).1)).1))
    else d)
  else if (scalar_Is (scalar_settle c false)).2 = true then (if (scalar_Is (scalar_settle d false)).2 = true then (scalar_Of ((word_Alu 11 b ((scalar_Is (scalar_settle c false)).1) ((scalar_Is (scalar_settle d false)).1)).1))
    else (scalar_settle d false))
  else if (scalar_Is (scalar_settle d false)).2 = true then (scalar_Of ((word_Alu 11 b ((scalar_Is (scalar_settle c false)).1) ((scalar_Is (scalar_settle d false)).1)).1))
  else (scalar_settle d false)
def scalar_Alu_12 (b : Bool) (c : Sc) (d : Sc) : Sc :=
  if b = true then (if (scalar_Is c).2 = true then (if (scalar_Is d).2 = true then (scalar_Of ((word_Alu 12 b ((scalar_Is c).1) ((scalar_Is d).1)).1))
      else (scalar_settle scalar_Any b))
    else if (scalar_Is d).2 = true then (scalar_settle (scalar_shift 12 b c (IntKind.i64.wrap (Int.tmod (scalar_Is d).1 64))) b)
    else (scalar_settle scalar_Any b))
  else if (scalar_Is (scalar_settle c false)).2 = true then (if (scalar_Is (scalar_settle d false)).2 = true then (scalar_Of ((word_Alu 12 b ((scalar_Is (scalar_settle c false)).1) ((scalar_Is (scalar_settle d false)).1)).1))
    else (scalar_settle scalar_Any b))
  else if (scalar_Is (scalar_settle d false)).2 = true then (scalar_settle (scalar_shift 12 b (scalar_settle c false) (IntKind.i64.wrap (Int.tmod (scalar_Is (scalar_settle d false)).1 32))) b)
  else (scalar_settle scalar_Any b)
def scalar_Alu_8 (b : Bool) (c : Sc) (d : Sc) : Sc :=
  if b = true then (if (scalar_Is c).2 = true then (if (scalar_Is d).2 = true then (scalar_Of ((word_Alu 8 b ((scalar_Is c).1) ((scalar_Is d).1)).1))
      else (scalar_Of ((word_Alu 8 b ((scalar_Is c).1) ((scalar_Is d).1)).1)))
    else (scalar_Alu_1 b (scalar_Of 0) c))
  else if (scalar_Is (scalar_settle c false)).2 = true then (if (scalar_Is (scalar_settle d false)).2 = true then (scalar_Of ((word_Alu 8 b ((scalar_Is (scalar_settle c false)).1) ((scalar_Is (scalar_settle d false)).1)).1))
    else (scalar_Of ((word_Alu 8 b ((scalar_Is (scalar_settle c false)).1) ((scalar_Is (scalar_settle d false)).1)).1)))
  else (scalar_Alu_1 b (scalar_Of 0) (scalar_settle c false))
def scalar_Alu_x (a : Int) (b : Bool) (c : Sc) (d : Sc) : Sc :=
  scalar_Any
def scalar_Alu (a : Int) (b : Bool) (c : Sc) (d : Sc) : Sc :=
  if a = 0 then scalar_Alu_0 b c d else
  if a = 1 then scalar_Alu_1 b c d else
  if a = 2 then scalar_Alu_2 b c d else
  if a = 3 then scalar_Alu_3 b c d else
  if a = 4 then scalar_Alu_4 b c d else
  if a = 5 then scalar_Alu_5 b c d else
  if a = 6 then scalar_Alu_6 b c d else
  if a = 7 then scalar_Alu_7 b c d else
  if a = 9 then scalar_Alu_9 b c d else
  if a = 10 then scalar_Alu_10 b c d else
  if a = 11 then scalar_Alu_11 b c d else
  if a = 12 then scalar_Alu_12 b c d else
  if a = 8 then scalar_Alu_8 b c d else
  scalar_Alu_x a b c d
def word_Swap_16 (b : Bool) (c : Int) : (Int × Bool) :=
  if b = true then ((Go.bits .or .u64 (shl .u64 (Go.bits .or .u64 0 (Go.bits .and .u64 (shr .u64 (shl .u64 c 48) 48) 255)) 8) (Go.bits .and .u64 (shr .u64 (shr .u64 (shl .u64 c 48) 48) 8) 255)), true)
  else ((shr .u64 (shl .u64 c 48) 48), true)
def word_Swap_32 (b : Bool) (c : Int) : (Int × Bool) :=
  if b = true then ((Go.bits .or .u64 (shl .u64 (Go.bits .or .u64 (shl .u64 (Go.bits .or .u64 (shl .u64 (Go.bits .or .u64 0 (Go.bits .and .u64 (shr .u64 (shl .u64 c 32) 32) 255)) 8) (Go.bits .and .u64 (shr .u64 (shr .u64 (shl .u64 c 32) 32) 8) 255)) 8) (Go.bits .and .u64 (shr .u64 (shr .u64 (shr .u64 (shl .u64 c 32) 32) 8) 8) 255)) 8) (Go.bits .and .u64 (shr .u64 (shr .u64 (shr .u64 (shr .u64 (shl .u64 c 32) 32) 8) 8) 8) 255)), true)
  else ((shr .u64 (shl .u64 c 32) 32), true)
def word_Swap_64 (b : Bool) (c : Int) : (Int × Bool) :=
  if b = true then ((Go.bits .or .u64 (shl .u64 (Go.bits .or .u64 (shl .u64 (Go.bits .or .u64 (shl .u64 (Go.bits .or .u64 (shl .u64 (Go.bits .or .u64 (shl .u64 (Go.bits .or .u64 (shl .u64 (Go.bits .or .u64 (shl .u64 (Go.bits .or .u64 0 (Go.bits .and .u64 (shr .u64 (shl .u64 c 0) 0) 255)) 8) (Go.bits .and .u64 (shr .u64 (shr .u64 (shl .u64 c 0) 0) 8) 255)) 8) (Go.bits .and .u64 (shr .u64 (shr .u64 (shr .u64 (shl .u64 c 0) 0) 8) 8) 255)) 8) (Go.bits .and .u64 (shr .u64 (shr .u64 (shr .u64 (shr .u64 (shl .u64 c 0) 0) 8) 8) 8) 255)) 8) (Go.bits .and .u64 (shr .u64 (shr .u64 (shr .u64 (shr .u64 (shr .u64 (shl .u64 c 0) 0) 8) 8) 8) 8) 255)) 8) (Go.bits .and .u64 (shr .u64 (shr .u64 (shr .u64 (shr .u64 (shr .u64 (shr .u64 (shl .u64 c 0) 0) 8) 8) 8) 8) 8) 255)) 8) (Go.bits .and .u64 (shr .u64 (shr .u64 (shr .u64 (shr .u64 (shr .u64 (shr .u64 (shr .u64 (shl .u64 c 0) 0) 8) 8) 8) 8) 8) 8) 255)) 8) (Go.bits .and .u64 (shr .u64 (shr .u64 (shr .u64 (shr .u64 (shr .u64 (shr .u64 (shr .u64 (shr .u64 (shl .u64 c 0) 0) 8) 8) 8) 8) 8) 8) 8) 255)), true)
  else ((shr .u64 (shl .u64 c 0) 0), true)
def word_Swap_x (a : Int) (b : Bool) (c : Int) : (Int × Bool) :=
  (0, false)
def word_Swap (a : Int) (b : Bool) (c : Int) : (Int × Bool) :=
  if a = 16 then word_Swap_16 b c else
  if a = 32 then word_Swap_32 b c else
  if a = 64 then word_Swap_64 b c else
  word_Swap_x a b c
def lockgateref01_Swap_16 (b : Bool) (c : Int) : (Int × Bool) :=
  if b = true then ((Go.bits .or .u64 (Go.bits .or .u64 0 (shl .u64 (Int.tmod (shr .u64 c 0) 256) 8)) (shl .u64 (Int.tmod (shr .u64 c 8) 256) 0)), true)
  else ((Go.bits .or .u64 (Go.bits .or .u64 0 (shl .u64 (Int.tmod (shr .u64 c 0) 256) 0)) (shl .u64 (Int.tmod (shr .u64 c 8) 256) 8)), true)
def lockgateref01_Swap_32 (b : Bool) (c : Int) : (Int × Bool) :=
  if b = true then ((Go.bits .or .u64 (Go.bits .or .u64 (Go.bits .or .u64 (Go.bits .or .u64 0 (shl .u64 (Int.tmod (shr .u64 c 0) 256) 24)) (shl .u64 (Int.tmod (shr .u64 c 8) 256) 16)) (shl .u64 (Int.tmod (shr .u64 c 16) 256) 8)) (shl .u64 (Int.tmod (shr .u64 c 24) 256) 0)), true)
  else ((Go.bits .or .u64 (Go.bits .or .u64 (Go.bits .or .u64 (Go.bits .or .u64 0 (shl .u64 (Int.tmod (shr .u64 c 0) 256) 0)) (shl .u64 (Int.tmod (shr .u64 c 8) 256) 8)) (shl .u64 (Int.tmod (shr .u64 c 16) 256) 16)) (shl .u64 (Int.tmod (shr .u64 c 24) 256) 24)), true)
def lockgateref01_Swap_64 (b : Bool) (c : Int) : (Int × Bool) :=
  if b = true then ((Go.bits .or .u64 (Go.bits .or .u64 (Go.bits .or .u64 (Go.bits .or .u64 (Go.bits .or .u64 (Go.bits .or .u64 (Go.bits .or .u64 (Go.bits .or .u64 0 (shl .u64 (Int.tmod (shr .u64 c 0) 256) 56)) (shl .u64 (Int.tmod (shr .u64 c 8) 256) 48)) (shl .u64 (Int.tmod (shr .u64 c 16) 256) 40)) (shl .u64 (Int.tmod (shr .u64 c 24) 256) 32)) (shl .u64 (Int.tmod (shr .u64 c 32) 256) 24)) (shl .u64 (Int.tmod (shr .u64 c 40) 256) 16)) (shl .u64 (Int.tmod (shr .u64 c 48) 256) 8)) (shl .u64 (Int.tmod (shr .u64 c 56) 256) 0)), true)
  else ((Go.bits .or .u64 (Go.bits .or .u64 (Go.bits .or .u64 (Go.bits .or .u64 (Go.bits .or .u64 (Go.bits .or .u64 (Go.bits .or .u64 (Go.bits .or .u64 0 (shl .u64 (Int.tmod (shr .u64 c 0) 256) 0)) (shl .u64 (Int.tmod (shr .u64 c 8) 256) 8)) (shl .u64 (Int.tmod (shr .u64 c 16) 256) 16)) (shl .u64 (Int.tmod (shr .u64 c 24) 256) 24)) (shl .u64 (Int.tmod (shr .u64 c 32) 256) 32)) (shl .u64 (Int.tmod (shr .u64 c 40) 256) 40)) (shl .u64 (Int.tmod (shr .u64 c 48) 256) 48)) (shl .u64 (Int.tmod (shr .u64 c 56) 256) 56)), true)
def lockgateref01_Swap_x (a : Int) (b : Bool) (c : Int) : (Int × Bool) :=
  (0, false)
def lockgateref01_Swap (a : Int) (b : Bool) (c : Int) : (Int × Bool) :=
  if a = 16 then lockgateref01_Swap_16 b c else
  if a = 32 then lockgateref01_Swap_32 b c else
  if a = 64 then lockgateref01_Swap_64 b c else
  lockgateref01_Swap_x a b c
def scalar_Swap (a : Int) (b : Bool) (c : Sc) : Sc :=
  if (word_Swap a b ((scalar_Is c).1)).2 = true then (if (scalar_Is c).2 = true then (scalar_Of ((word_Swap a b ((scalar_Is c).1)).1))
    else if a = 64 then (if b = true then (scalar_Upto (IntKind.i64.wrap (Int.tdiv a 8)))
      else c)
    else (scalar_Upto (IntKind.i64.wrap (Int.tdiv a 8))))
  else scalar_Any
def lockgateref05_Swap (a : Int) (b : Bool) (c : Sc) : Sc :=
  if (lockgateref01_Swap a b ((lockgateref05_Is c).1)).2 = true then (if (lockgateref05_Is c).2 = true then (lockgateref05_Of ((lockgateref01_Swap a b ((lockgateref05_Is c).1)).1))
    else if a = 64 then (if b = true then (lockgateref05_Upto (IntKind.i64.wrap (Int.tdiv a 8)))
      else c)
    else (lockgateref05_Upto (IntKind.i64.wrap (Int.tdiv a 8))))
  else lockgateref05_Any
def scalar_learn_1 (b : Bool) (c : Sc) (d : Sc) : (Sc × Sc × Bool) :=
  if (b == true) = true then (((scalar_meet c d).1), ((scalar_meet c d).1), (scalar_meet c d).2)
  else if (scalar_Is d).2 = true then (if (scalar_Is c).2 = true then (if (scalar_without c ((scalar_Is d).1)).2 = true then (((scalar_without c ((scalar_Is d).1)).1), ((scalar_without d ((scalar_Is c).1)).1), (scalar_without d ((scalar_Is c).1)).2)
      else (((scalar_without c ((scalar_Is d).1)).1), ((scalar_without d ((scalar_Is c).1)).1), false))
    else if (scalar_without c ((scalar_Is d).1)).2 = true then (((scalar_without c ((scalar_Is d).1)).1), d, true)
    else (((scalar_without c ((scalar_Is d).1)).1), d, false))
  else if (scalar_Is c).2 = true then (c, ((scalar_without d ((scalar_Is c).1)).1), (scalar_without d ((scalar_Is c).1)).2)
  else (c, d, true)
def scalar_learn_2 (b : Bool) (c : Sc) (d : Sc) : (Sc × Sc × Bool) :=
  if (true == b) = true then (((scalar_less d c false (false == b)).2.1), ((scalar_less d c false (false == b)).1), (scalar_less d c false (false == b)).2.2)
  else (((scalar_less c d false (false == b)).1), ((scalar_less c d false (false == b)).2.1), (scalar_less c d false (false == b)).2.2)
def scalar_learn_3 (b : Bool) (c : Sc) (d : Sc) : (Sc × Sc × Bool) :=
  if (true == b) = true then (((scalar_less d c false (true == b)).2.1), ((scalar_less d c false (true == b)).1), (scalar_less d c false (true == b)).2.2)
  else (((scalar_less c d false (true == b)).1), ((scalar_less c d false (true == b)).2.1), (scalar_less c d false (true == b)).2.2)
def scalar_learn_4 (b : Bool) (c : Sc) (d : Sc) : (Sc × Sc × Bool) :=
  if b = true then (c, d, true)
  else if (scalar_Is d).2 = true then (if (scalar_Is c).2 = true then (if (scalar_clear c ((scalar_Is d).1)).2 = true then (((scalar_clear c ((scalar_Is d).1)).1), ((scalar_clear d ((scalar_Is c).1)).1), (scalar_clear d ((scalar_Is c).1)).2)
      else (((scalar_clear c ((scalar_Is d).1)).1), ((scalar_clear d ((scalar_Is c).1)).1), false))
    else if (scalar_clear c ((scalar_Is d).1)).2 = true then (((scalar_clear c ((scalar_Is d).1)).1), d, true)
    else (((scalar_clear c ((scalar_Is d).1)).1), d, false))
  else if (scalar_Is c).2 = true then (c, ((scalar_clear d ((scalar_Is c).1)).1), (scalar_clear d ((scalar_Is c).1)).2)
  else (c, d, true)
def scalar_learn_5 (b : Bool) (c : Sc) (d : Sc) : (Sc × Sc × Bool) :=
  if (b == false) = true then (((scalar_meet c d).1), ((scalar_meet c d).1), (scalar_meet c d).2)
  else if (scalar_Is d).2 = true then (if (scalar_Is c).2 = true then (if (scalar_without c ((scalar_Is d).1)).2 = true then (((scalar_without c ((scalar_Is d).1)).1), ((scalar_without d ((scalar_Is c).1)).1), (scalar_without d ((scalar_Is c).1)).2)
      else (((scalar_without c ((scalar_Is d).1)).1), ((scalar_without d ((scalar_Is c).1)).1), false))
    else if (scalar_without c ((scalar_Is d).1)).2 = true then (((scalar_without c ((scalar_Is d).1)).1), d, true)
    else (((scalar_without c ((scalar_Is d).1)).1), d, false))
  else if (scalar_Is c).2 = true then (c, ((scalar_without d ((scalar_Is c).1)).1), (scalar_without d ((scalar_Is c).1)).2)
  else (c, d, true)
def scalar_learn_6 (b : Bool) (c : Sc) (d : Sc) : (Sc × Sc × Bool) :=
  if (true == b) = true then (((scalar_less d c true (false == b)).2.1), ((scalar_less d c true (false == b)).1), (scalar_less d c true (false == b)).2.2)
  else (((scalar_less c d true (false == b)).1), ((scalar_less c d true (false == b)).2.1), (scalar_less c d true (false == b)).2.2)
def scalar_learn_7 (b : Bool) (c : Sc) (d : Sc) : (Sc × Sc × Bool) :=
  if (true == b) = true then (((scalar_less d c true (true == b)).2.1), ((scalar_less d c true (true == b)).1), (scalar_less d c true (true == b)).2.2)
  else (((scalar_less c d true (true == b)).1), ((scalar_less c d true (true == b)).2.1), (scalar_less c d true (true == b)).2.2)
def scalar_learn_10 (b : Bool) (c : Sc) (d : Sc) : (Sc × Sc × Bool) :=
  if (false == b) = true then (((scalar_less d c false (false == b)).2.1), ((scalar_less d c false (false == b)).1), (scalar_less d c false (false == b)).2.2)
  else (((scalar_less c d false (false == b)).1), ((scalar_less c d false (false == b)).2.1), (scalar_less c d false (false == b)).2.2)
def scalar_learn_11 (b : Bool) (c : Sc) (d : Sc) : (Sc × Sc × Bool) :=
  if (false == b) = true then (((scalar_less d c false (true == b)).2.1), ((scalar_less d c false (true == b)).1), (scalar_less d c false (true == b)).2.2)
  else (((scalar_less c d false (true == b)).1), ((scalar_less c d false (true == b)).2.1), (scalar_less c d false (true == b)).2.2)
def scalar_learn_12 (b : Bool) (c : Sc) (d : Sc) : (Sc × Sc × Bool) :=
  if (false == b) = true then (((scalar_less d c true (false == b)).2.1), ((scalar_less d c true (false == b)).1), (scalar_less d c true (false == b)).2.2)
  else (((scalar_less c d true (false == b)).1), ((scalar_less c d true (false == b)).2.1), (scalar_less c d true (false == b)).2.2)
def scalar_learn_13 (b : Bool) (c : Sc) (d : Sc) : (Sc × Sc × Bool) :=
  if (false == b) = true then (((scalar_less d c true (true == b)).2.1), ((scalar_less d c true (true == b)).1), (scalar_less d c true (true == b)).2.2)
  else (((scalar_less c d true (true == b)).1), ((scalar_less c d true (true == b)).2.1), (scalar_less c d true (true == b)).2.2)
def scalar_learn_x (a : Int) (b : Bool) (c : Sc) (d : Sc) : (Sc × Sc × Bool) :=
  if ((a == 7) == b) = true then (((scalar_less d c (a == 13) ((a == 13) == b)).2.1), ((scalar_less d c (a == 13) ((a == 13) == b)).1), (scalar_less d c (a == 13) ((a == 13) == b)).2.2)
  else (((scalar_less c d (a == 13) ((a == 13) == b)).1), ((scalar_less c d (a == 13) ((a == 13) == b)).2.1), (scalar_less c d (a == 13) ((a == 13) == b)).2.2)
def scalar_learn (a : Int) (b : Bool) (c : Sc) (d : Sc) : (Sc × Sc × Bool) :=
  if a = 1 then scalar_learn_1 b c d else
  if a = 2 then scalar_learn_2 b c d else
  if a = 3 then scalar_learn_3 b c d else
  if a = 4 then scalar_learn_4 b c d else
  if a = 5 then scalar_learn_5 b c d else
  if a = 6 then scalar_learn_6 b c d else
  if a = 7 then scalar_learn_7 b c d else
  if a = 10 then scalar_learn_10 b c d else
  if a = 11 then scalar_learn_11 b c d else
  if a = 12 then scalar_learn_12 b c d else
  if a = 13 then scalar_learn_13 b c d else
  scalar_learn_x a b c d
def scalar_Branch (a : Int) (b : Bool) (c : Bool) (d : Sc) (e : Sc) : (Sc × Sc × Bool) :=
  if (word_Jump a b ((scalar_Is d).1) ((scalar_Is e).1)).2 = true then (if (scalar_Is d).2 = true then (if (scalar_Is e).2 = true then (if (((word_Jump a b ((scalar_Is d).1) ((scalar_Is e).1)).1) == c) = true then (d, e, true)
        else ((⟨(⟨0, 0⟩ : Tn), (⟨0, 0⟩ : Us), (⟨0, 0⟩ : Ss)⟩ : Sc), (⟨(⟨0, 0⟩ : Tn), (⟨0, 0⟩ : Us), (⟨0, 0⟩ : Ss)⟩ : Sc), false))
      else if a = 6 then (if (scalar_Within d (scalar_Upto 4)) = true then (if (scalar_Within e (scalar_Upto 4)) = true then (if b = true then (if (scalar_learn a c d e).2.2 = true then (if (scalar_Norm ((scalar_learn a c d e).1)).2 = true then (if (scalar_Norm ((scalar_learn a c d e).2.1)).2 = true then (((scalar_Norm ((scalar_learn a c d e).1)).1), ((scalar_Norm ((scalar_learn a c d e).2.1)).1), true)
                  else ((⟨(⟨0, 0⟩ : Tn), (⟨0, 0⟩ : Us), (⟨0, 0⟩ : Ss)⟩ : Sc), (⟨(⟨0, 0⟩ : Tn), (⟨0, 0⟩ : Us), (⟨0, 0⟩ : Ss)⟩ : Sc), false))
                else ((⟨(⟨0, 0⟩ : Tn), (⟨0, 0⟩ : Us), (⟨0, 0⟩ : Ss)⟩ : Sc), (⟨(⟨0, 0⟩ : Tn), (⟨0, 0⟩ : Us), (⟨0, 0⟩ : Ss)⟩ : Sc), false))
              else ((⟨(⟨0, 0⟩ : Tn), (⟨0, 0⟩ : Us), (⟨0, 0⟩ : Ss)⟩ : Sc), (⟨(⟨0, 0⟩ : Tn), (⟨0, 0⟩ : Us), (⟨0, 0⟩ : Ss)⟩ : Sc), false))
            else if (if e.u.hi > d.u.hi then e.u.hi else d.u.hi) < 2147483648 then (if (scalar_learn a c d e).2.2 = true then (if (scalar_Norm ((scalar_learn a c d e).1)).2 = true then (if (scalar_Norm ((scalar_learn a c d e).2.1)).2 = true then (((scalar_Norm ((scalar_learn a c d e).1)).1), ((scalar_Norm ((scalar_learn a c d e).2.1)).1), true)
                  else ((⟨(⟨0, 0⟩ : Tn), (⟨0, 0⟩ : Us), (⟨0, 0⟩ : Ss)⟩ : Sc), (⟨(⟨0, 0⟩ : Tn), (⟨0, 0⟩ : Us), (⟨0, 0⟩ : Ss)⟩ : Sc), false))
                else ((⟨(⟨0, 0⟩ : Tn), (⟨0, 0⟩ : Us), (⟨0, 0⟩ : Ss)⟩ : Sc), (⟨(⟨0, 0⟩ : Tn), (⟨0, 0⟩ : Us), (⟨0, 0⟩ : Ss)⟩ : Sc), false))
              else ((⟨(⟨0, 0⟩ : Tn), (⟨0, 0⟩ : Us), (⟨0, 0⟩ : Ss)⟩ : Sc), (⟨(⟨0, 0⟩ : Tn), (⟨0, 0⟩ : Us), (⟨0, 0⟩ : Ss)⟩ : Sc), false))
            else (d, e, true))
          else if b = true then (if (scalar_learn a c d e).2.2 = true then (if (scalar_Norm ((scalar_learn a c d e).1)).2 = true then (if (scalar_Norm ((scalar_learn a c d e).2.1)).2 = true then (((scalar_Norm ((scalar_learn a c d e).1)).1), ((scalar_Norm ((scalar_learn a c d e).2.1)).1), true)
                else ((⟨(⟨0, 0⟩ : Tn), (⟨0, 0⟩ : Us), (⟨0, 0⟩ : Ss)⟩ : Sc), (⟨(⟨0, 0⟩ : Tn), (⟨0, 0⟩ : Us), (⟨0, 0⟩ : Ss)⟩ : Sc), false))
              else ((⟨(⟨0, 0⟩ : Tn), (⟨0, 0⟩ : Us), (⟨0, 0⟩ : Ss)⟩ : Sc), (⟨(⟨0, 0⟩ : Tn), (⟨0, 0⟩ : Us), (⟨0, 0⟩ : Ss)⟩ : Sc), false))
            else ((⟨(⟨0, 0⟩ : Tn), (⟨0, 0⟩ : Us), (⟨0, 0⟩ : Ss)⟩ : Sc), (⟨(⟨0, 0⟩ : Tn), (⟨0, 0⟩ : Us), (⟨0, 0⟩ : Ss)⟩ : Sc), false))
          else (d, e, true))
        else if b = true then (if (scalar_learn a c d e).2.2 = true then (if (scalar_Norm ((scalar_learn a c d e).1)).2 = true then (if (scalar_Norm ((scalar_learn a c d e).2.1)).2 = true then (((scalar_Norm ((scalar_learn a c d e).1)).1), ((scalar_Norm ((scalar_learn a c d e).2.1)).1), true)
              else ((⟨(⟨0, 0⟩ : Tn), (⟨0, 0⟩ : Us), (⟨0, 0⟩ : Ss)⟩ : Sc), (⟨(⟨0, 0⟩ : Tn), (⟨0, 0⟩ : Us), (⟨0, 0⟩ : Ss)⟩ : Sc), false))
            else ((⟨(⟨0, 0⟩ : Tn), (⟨0, 0⟩ : Us), (⟨0, 0⟩ : Ss)⟩ : Sc), (⟨(⟨0, 0⟩ : Tn), (⟨0, 0⟩ : Us), (⟨0, 0⟩ : Ss)⟩ : Sc), false))
          else ((⟨(⟨0, 0⟩ : Tn), (⟨0, 0⟩ : Us), (⟨0, 0⟩ : Ss)⟩ : Sc), (⟨(⟨0, 0⟩ : Tn), (⟨0, 0⟩ : Us), (⟨0, 0⟩ : Ss)⟩ : Sc), false))
        else (d, e, true))
      else if a = 7 then (if (scalar_Within d (scalar_Upto 4)) = true then (if (scalar_Within e (scalar_Upto 4)) = true then (if b = true then (if (scalar_learn a c d e).2.2 = true then (if (scalar_Norm ((scalar_learn a c d e).1)).2 = true then (if (scalar_Norm ((scalar_learn a c d e).2.1)).2 = true then (((scalar_Norm ((scalar_learn a c d e).1)).1), ((scalar_Norm ((scalar_learn a c d e).2.1)).1), true)
                  else ((⟨(⟨0, 0⟩ : Tn), (⟨0, 0⟩ : Us), (⟨0, 0⟩ : Ss)⟩ : Sc), (⟨(⟨0, 0⟩ : Tn), (⟨0, 0⟩ : Us), (⟨0, 0⟩ : Ss)⟩ : Sc), false))
                else ((⟨(⟨0, 0⟩ : Tn), (⟨0, 0⟩ : Us), (⟨0, 0⟩ : Ss)⟩ : Sc), (⟨(⟨0, 0⟩ : Tn), (⟨0, 0⟩ : Us), (⟨0, 0⟩ : Ss)⟩ : Sc), false))
              else ((⟨(⟨0, 0⟩ : Tn), (⟨0, 0⟩ : Us), (⟨0, 0⟩ : Ss)⟩ : Sc), (⟨(⟨0, 0⟩ : Tn), (⟨0, 0⟩ : Us), (⟨0, 0⟩ : Ss)⟩ : Sc), false))
            else if (if e.u.hi > d.u.hi then e.u.hi else d.u.hi) < 2147483648 then (if (scalar_learn a c d e).2.2 = true then (if (scalar_Norm ((scalar_learn a c d e).1)).2 = true then (if (scalar_Norm ((scalar_learn a c d e).2.1)).2 = true then (((scalar_Norm ((scalar_learn a c d e).1)).1), ((scalar_Norm ((scalar_learn a c d e).2.1)).1), true)
                  else ((⟨(⟨0, 0⟩ : Tn), (⟨0, 0⟩ : Us), (⟨0, 0⟩ : Ss)⟩ : Sc), (⟨(⟨0, 0⟩ : Tn), (⟨0, 0⟩ : Us), (⟨0, 0⟩ : Ss)⟩ : Sc), false))
                else ((⟨(⟨0, 0⟩ : Tn), (⟨0, 0⟩ : Us), (⟨0, 0⟩ : Ss)⟩ : Sc), (⟨(⟨0, 0⟩ : Tn), (⟨0, 0⟩ : Us), (⟨0, 0⟩ : Ss)⟩ : Sc), false))
              else ((⟨(⟨0, 0⟩ : Tn), (⟨0, 0⟩ : Us), (⟨0, 0⟩ : Ss)⟩ : Sc), (⟨(⟨0, 0⟩ : Tn), (⟨0, 0⟩ : Us), (⟨0, 0⟩ : Ss)⟩ : Sc), false))
            else (d, e, true))
          else if b = true then (if (scalar_learn a c d e).2.2 = true then (if (scalar_Norm ((scalar_learn a c d e).1)).2 = true then (if (scalar_Norm ((scalar_learn a c d e).2.1)).2 = true then (((scalar_Norm ((scalar_learn a c d e).1)).1), ((scalar_Norm ((scalar_learn a c d e).2.1)).1), true)
                else ((⟨(⟨0, 0⟩ : Tn), (⟨0, 0⟩ : Us), (⟨0, 0⟩ : Ss)⟩ : Sc), (⟨(⟨0, 0⟩ : Tn), (⟨0, 0⟩ : Us), (⟨0, 0⟩ : Ss)⟩ : Sc), false))
              else ((⟨(⟨0, 0⟩ : Tn), (⟨0, 0⟩ : Us), (⟨0, 0⟩ : Ss)⟩ : Sc), (⟨(⟨0, 0⟩ : Tn), (⟨0, 0⟩ : Us), (⟨0, 0⟩ : Ss)⟩ : Sc), false))
            else ((⟨(⟨0, 0⟩ : Tn), (⟨0, 0⟩ : Us), (⟨0, 0⟩ : Ss)⟩ : Sc), (⟨(⟨0, 0⟩ : Tn), (⟨0, 0⟩ : Us), (⟨0, 0⟩ : Ss)⟩ : Sc), false))
          else (d, e, true))
        else if b = true then (if (scalar_learn a c d e).2.2 = true then (if (scalar_Norm ((scalar_learn a c d e).1)).2 = true then (if (scalar_Norm ((scalar_learn a c d e).2.1)).2 = true then (((scalar_Norm ((scalar_learn a c d e).1)).1), ((scalar_Norm ((scalar_learn a c d e).2.1)).1), true)
              else ((⟨(⟨0, 0⟩ : Tn), (⟨0, 0⟩ : Us), (⟨0, 0⟩ : Ss)⟩ : Sc), (⟨(⟨0, 0⟩ : Tn), (⟨0, 0⟩ : Us), (⟨0, 0⟩ : Ss)⟩ : Sc), false))
            else ((⟨(⟨0, 0⟩ : Tn), (⟨0, 0⟩ : Us), (⟨0, 0⟩ : Ss)⟩ : Sc), (⟨(⟨0, 0⟩ : Tn), (⟨0, 0⟩ : Us), (⟨0, 0⟩ : Ss)⟩ : Sc), false))
          else ((⟨(⟨0, 0⟩ : Tn), (⟨0, 0⟩ : Us), (⟨0, 0⟩ : Ss)⟩ : Sc), (⟨(⟨0, 0⟩ : Tn), (⟨0, 0⟩ : Us), (⟨0, 0⟩ : Ss)⟩ : Sc), false))
        else (d, e, true))
      else if a = 12 then (if (scalar_Within d (scalar_Upto 4)) = true then (if (scalar_Within e (scalar_Upto 4)) = true then (if b = true then (if (scalar_learn a c d e).2.2 = true then (if (scalar_Norm ((scalar_learn a c d e).1)).2 = true then (if (scalar_Norm ((scalar_learn a c d e).2.1)).2 = true then (((scalar_Norm ((scalar_learn a c d e).1)).1), ((scalar_Norm ((scalar_learn a c d e).2.1)).1), true)
                  else ((⟨(⟨0, 0⟩ : Tn), (⟨0, 0⟩ : Us), (⟨0, 0⟩ : Ss)⟩ : Sc), (⟨(⟨0, 0⟩ : Tn), (⟨0, 0⟩ : Us), (⟨0, 0⟩ : Ss)⟩ : Sc), false))
                else ((⟨(⟨0, 0⟩ : Tn), (⟨0, 0⟩ : Us), (⟨0, 0⟩ : Ss)⟩ : Sc), (⟨(⟨0, 0⟩ : Tn), (⟨0, 0⟩ : Us), (⟨0, 0⟩ : Ss)⟩ : Sc), false))
              else ((⟨(⟨0, 0⟩ : Tn), (⟨0, 0⟩ : Us), (⟨0, 0⟩ : Ss)⟩ : Sc), (⟨(⟨0, 0⟩ : Tn), (⟨0, 0⟩ : Us), (⟨0, 0⟩ : Ss)⟩ : Sc), false))
            else if (if e.u.hi > d.u.hi then e.u.hi else d.u.hi) < 2147483648 then (if (scalar_learn a c d e).2.2 = true then (if (scalar_Norm ((scalar_learn a c d e).1)).2 = true then (if (scalar_Norm ((scalar_learn a c d e).2.1)).2 = true then (((scalar_Norm ((scalar_learn a c d e).1)).1), ((scalar_Norm ((scalar_learn a c d e).2.1)).1), true)
                  else ((⟨(⟨0, 0⟩ : Tn), (⟨0, 0⟩ : Us), (⟨0, 0⟩ : Ss)⟩ : Sc), (⟨(⟨0, 0⟩ : Tn), (⟨0, 0⟩ : Us), (⟨0, 0⟩ : Ss)⟩ : Sc), false))
                else ((⟨(⟨0, 0⟩ : Tn), (⟨0, 0⟩ : Us), (⟨0, 0⟩ : Ss)⟩ : Sc), (⟨(⟨0, 0⟩ : Tn), (⟨0, 0⟩ : Us), (⟨0, 0⟩ : Ss)⟩ : Sc), false))
              else ((⟨(⟨0, 0⟩ : Tn), (⟨0, 0⟩ : Us), (⟨0, 0⟩ : Ss)⟩ : Sc), (⟨(⟨0, 0⟩ : Tn), (⟨0, 0⟩ : Us), (⟨0, 0⟩ : Ss)⟩ : Sc), false))
            else (d, e, true))
          else if b = true then (if (scalar_learn a c d e).2.2 = true then (if (scalar_Norm ((scalar_learn a c d e).1)).2 = true then (if (scalar_Norm ((scalar_learn a c d e).2.1)).2 = true then (((scalar_Norm ((scalar_learn a c d e).1)).1), ((scalar_Norm ((scalar_learn a c d e).2.1)).1), true)
                else ((⟨(⟨0, 0⟩ : Tn), (⟨0, 0⟩ : Us), (⟨0, 0⟩ : Ss)⟩ : Sc), (⟨(⟨0, 0⟩ : Tn), (⟨0, 0⟩ : Us), (⟨0, 0⟩ : Ss)⟩ : Sc), false))
              else ((⟨(⟨0, 0⟩ : Tn), (⟨0, 0⟩ : Us), (⟨0, 0⟩ : Ss)⟩ : Sc), (⟨(⟨0, 0⟩ : Tn), (⟨0, 0⟩ : Us), (⟨0, 0⟩ : Ss)⟩ : Sc), false))
            else ((⟨(⟨0, 0⟩ : Tn), (⟨0, 0⟩ : Us), (⟨0, 0⟩ : Ss)⟩ : Sc), (⟨(⟨0, 0⟩ : Tn), (⟨0, 0⟩ : Us), (⟨0, 0⟩ : Ss)⟩ : Sc), false))
          else (d, e, true))
        else if b = true then (if (scalar_learn a c d e).2.2 = true then (if (scalar_Norm ((scalar_learn a c d e).1)).2 = true then (if (scalar_Norm ((scalar_learn a c d e).2.1)).2 = true then (((scalar_Norm ((scalar_learn a c d e).1)).1), ((scalar_Norm ((scalar_learn a c d e).2.1)).1), true)
              else ((⟨(⟨0, 0⟩ : Tn), (⟨0, 0⟩ : Us), (⟨0, 0⟩ : Ss)⟩ : Sc), (⟨(⟨0, 0⟩ : Tn), (⟨0, 0⟩ : Us), (⟨0, 0⟩ : Ss)⟩ : Sc), false))
            else ((⟨(⟨0, 0⟩ : Tn), (⟨0, 0⟩ : Us), (⟨0, 0⟩ : Ss)⟩ : Sc), (⟨(⟨0, 0⟩ : Tn), (⟨0, 0⟩ : Us), (⟨0, 0⟩ : Ss)⟩ : Sc), false))
          else ((⟨(⟨0, 0⟩ : Tn), (⟨0, 0⟩ : Us), (⟨0, 0⟩ : Ss)⟩ : Sc), (⟨(⟨0, 0⟩ : Tn), (⟨0, 0⟩ : Us), (⟨0, 0⟩ : Ss)⟩ : Sc), false))
        else (d, e, true))
      else if (scalar_Within d (scalar_Upto 4)) = true then (if (scalar_Within e (scalar_Upto 4)) = true then (if a = 13 then (if b = true then (if (scalar_learn a c d e).2.2 = true then (if (scalar_Norm ((scalar_learn a c d e).1)).2 = true then (if (scalar_Norm ((scalar_learn a c d e).2.1)).2 = true then (((scalar_Norm ((scalar_learn a c d e).1)).1), ((scalar_Norm ((scalar_learn a c d e).2.1)).1), true)
                  else ((⟨(⟨0, 0⟩ : Tn), (⟨0, 0⟩ : Us), (⟨0, 0⟩ : Ss)⟩ : Sc), (⟨(⟨0, 0⟩ : Tn), (⟨0, 0⟩ : Us), (⟨0, 0⟩ : Ss)⟩ : Sc), false))
                else ((⟨(⟨0, 0⟩ : Tn), (⟨0, 0⟩ : Us), (⟨0, 0⟩ : Ss)⟩ : Sc), (⟨(⟨0, 0⟩ : Tn), (⟨0, 0⟩ : Us), (⟨0, 0⟩ : Ss)⟩ : Sc), false))
              else ((⟨(⟨0, 0⟩ : Tn), (⟨0, 0⟩ : Us), (⟨0, 0⟩ : Ss)⟩ : Sc), (⟨(⟨0, 0⟩ : Tn), (⟨0, 0⟩ : Us), (⟨0, 0⟩ : Ss)⟩ : Sc), false))
            else if (if e.u.hi > d.u.hi then e.u.hi else d.u.hi) < 2147483648 then (if (scalar_learn a c d e).2.2 = true then (if (scalar_Norm ((scalar_learn a c d e).1)).2 = true then (if (scalar_Norm ((scalar_learn a c d e).2.1)).2 = true then (((scalar_Norm ((scalar_learn a c d e).1)).1), ((scalar_Norm ((scalar_learn a c d e).2.1)).1), true)
                  else ((⟨(⟨0, 0⟩ : Tn), (⟨0, 0⟩ : Us), (⟨0, 0⟩ : Ss)⟩ : Sc), (⟨(⟨0, 0⟩ : Tn), (⟨0, 0⟩ : Us), (⟨0, 0⟩ : Ss)⟩ : Sc), false))
                else ((⟨(⟨0, 0⟩ : Tn), (⟨0, 0⟩ : Us), (⟨0, 0⟩ : Ss)⟩ : Sc), (⟨(⟨0, 0⟩ : Tn), (⟨0, 0⟩ : Us), (⟨0, 0⟩ : Ss)⟩ : Sc), false))
              else ((⟨(⟨0, 0⟩ : Tn), (⟨0, 0⟩ : Us), (⟨0, 0⟩ : Ss)⟩ : Sc), (⟨(⟨0, 0⟩ : Tn), (⟨0, 0⟩ : Us), (⟨0, 0⟩ : Ss)⟩ : Sc), false))
            else (d, e, true))
          else if b = true then (if (scalar_learn a c d e).2.2 = true then (if (scalar_Norm ((scalar_learn a c d e).1)).2 = true then (if (scalar_Norm ((scalar_learn a c d e).2.1)).2 = true then (((scalar_Norm ((scalar_learn a c d e).1)).1), ((scalar_Norm ((scalar_learn a c d e).2.1)).1), true)
                else ((⟨(⟨0, 0⟩ : Tn), (⟨0, 0⟩ : Us), (⟨0, 0⟩ : Ss)⟩ : Sc), (⟨(⟨0, 0⟩ : Tn), (⟨0, 0⟩ : Us), (⟨0, 0⟩ : Ss)⟩ : Sc), false))
              else ((⟨(⟨0, 0⟩ : Tn), (⟨0, 0⟩ : Us), (⟨0, 0⟩ : Ss)⟩ : Sc), (⟨(⟨0, 0⟩ : Tn), (⟨0, 0⟩ : Us), (⟨0, 0⟩ : Ss)⟩ : Sc), false))
            else ((⟨(⟨0, 0⟩ : Tn), (⟨0, 0⟩ : Us), (⟨0, 0⟩ : Ss)⟩ : Sc), (⟨(⟨0, 0⟩ : Tn), (⟨0, 0⟩ : Us), (⟨0, 0⟩ : Ss)⟩ : Sc), false))
          else if (scalar_learn a c d e).2.2 = true then (if (scalar_Norm ((scalar_learn a c d e).1)).2 = true then (if (scalar_Norm ((scalar_learn a c d e).2.1)).2 = true then (((scalar_Norm ((scalar_learn a c d e).1)).1), ((scalar_Norm ((scalar_learn a c d e).2.1)).1), true)
              else ((⟨(⟨0, 0⟩ : Tn), (⟨0, 0⟩ : Us), (⟨0, 0⟩ : Ss)⟩ : Sc), (⟨(⟨0, 0⟩ : Tn), (⟨0, 0⟩ : Us), (⟨0, 0⟩ : Ss)⟩ : Sc), false))
            else ((⟨(⟨0, 0⟩ : Tn), (⟨0, 0⟩ : Us), (⟨0, 0⟩ : Ss)⟩ : Sc), (⟨(⟨0, 0⟩ : Tn), (⟨0, 0⟩ : Us), (⟨0, 0⟩ : Ss)⟩ : Sc), false))
          else ((⟨(⟨0, 0⟩ : Tn), (⟨0, 0⟩ : Us), (⟨0, 0⟩ : Ss)⟩ : Sc), (⟨(⟨0, 0⟩ : Tn), (⟨0, 0⟩ : Us), (⟨0, 0⟩ : Ss)⟩ : Sc), false))
        else if b = true then (if (scalar_learn a c d e).2.2 = true then (if (scalar_Norm ((scalar_learn a c d e).1)).2 = true then (if (scalar_Norm ((scalar_learn a c d e).2.1)).2 = true then (((scalar_Norm ((scalar_learn a c d e).1)).1), ((scalar_Norm ((scalar_learn a c d e).2.1)).1), true)
              else ((⟨(⟨0, 0⟩ : Tn), (⟨0, 0⟩ : Us), (⟨0, 0⟩ : Ss)⟩ : Sc), (⟨(⟨0, 0⟩ : Tn), (⟨0, 0⟩ : Us), (⟨0, 0⟩ : Ss)⟩ : Sc), false))
            else ((⟨(⟨0, 0⟩ : Tn), (⟨0, 0⟩ : Us), (⟨0, 0⟩ : Ss)⟩ : Sc), (⟨(⟨0, 0⟩ : Tn), (⟨0, 0⟩ : Us), (⟨0, 0⟩ : Ss)⟩ : Sc), false))
          else ((⟨(⟨0, 0⟩ : Tn), (⟨0, 0⟩ : Us), (⟨0, 0⟩ : Ss)⟩ : Sc), (⟨(⟨0, 0⟩ : Tn), (⟨0, 0⟩ : Us), (⟨0, 0⟩ : Ss)⟩ : Sc), false))
        else (d, e, true))
      else if b = true then (if (scalar_learn a c d e).2.2 = true then (if (scalar_Norm ((scalar_learn a c d e).1)).2 = true then (if (scalar_Norm ((scalar_learn a c d e).2.1)).2 = true then (((scalar_Norm ((scalar_learn a c d e).1)).1), ((scalar_Norm ((scalar_learn a c d e).2.1)).1), true)
            else ((⟨(⟨0, 0⟩ : Tn), (⟨0, 0⟩ : Us), (⟨0, 0⟩ : Ss)⟩ : Sc), (⟨(⟨0, 0⟩ : Tn), (⟨0, 0⟩ : Us), (⟨0, 0⟩ : Ss)⟩ : Sc), false))
          else ((⟨(⟨0, 0⟩ : Tn), (⟨0, 0⟩ : Us), (⟨0, 0⟩ : Ss)⟩ : Sc), (⟨(⟨0, 0⟩ : Tn), (⟨0, 0⟩ : Us), (⟨0, 0⟩ : Ss)⟩ : Sc), false))
        else ((⟨(⟨0, 0⟩ : Tn), (⟨0, 0⟩ : Us), (⟨0, 0⟩ : Ss)⟩ : Sc), (⟨(⟨0, 0⟩ : Tn), (⟨0, 0⟩ : Us), (⟨0, 0⟩ : Ss)⟩ : Sc), false))
      else (d, e, true))
    else if a = 6 then (if (scalar_Within d (scalar_Upto 4)) = true then (if (scalar_Within e (scalar_Upto 4)) = true then (if b = true then (if (scalar_learn a c d e).2.2 = true then (if (scalar_Norm ((scalar_learn a c d e).1)).2 = true then (if (scalar_Norm ((scalar_learn a c d e).2.1)).2 = true then (((scalar_Norm ((scalar_learn a c d e).1)).1), ((scalar_Norm ((scalar_learn a c d e).2.1)).1), true)
                else ((⟨(⟨0, 0⟩ : Tn), (⟨0, 0⟩ : Us), (⟨0, 0⟩ : Ss)⟩ : Sc), (⟨(⟨0, 0⟩ : Tn), (⟨0, 0⟩ : Us), (⟨0, 0⟩ : Ss)⟩ : Sc), false))
              else ((⟨(⟨0, 0⟩ : Tn), (⟨0, 0⟩ : Us), (⟨0, 0⟩ : Ss)⟩ : Sc), (⟨(⟨0, 0⟩ : Tn), (⟨0, 0⟩ : Us), (⟨0, 0⟩ : Ss)⟩ : Sc), false))
            else ((⟨(⟨0, 0⟩ : Tn), (⟨0, 0⟩ : Us), (⟨0, 0⟩ : Ss)⟩ : Sc), (⟨(⟨0, 0⟩ : Tn), (⟨0, 0⟩ : Us), (⟨0, 0⟩ : Ss)⟩ : Sc), false))
          else if (if e.u.hi > d.u.hi then e.u.hi else d.u.hi) < 2147483648 then (if (scalar_learn a c d e).2.2 = true then (if (scalar_Norm ((scalar_learn a c d e).1)).2 = true then (if (scalar_Norm ((scalar_learn a c d e).2.1)).2 = true then (((scalar_Norm ((scalar_learn a c d e).1)).1), ((scalar_Norm ((scalar_learn a c d e).2.1)).1), true)
                else ((⟨(⟨0, 0⟩ : Tn), (⟨0, 0⟩ : Us), (⟨0, 0⟩ : Ss)⟩ : Sc), (⟨(⟨0, 0⟩ : Tn), (⟨0, 0⟩ : Us), (⟨0, 0⟩ : Ss)⟩ : Sc), false))
              else ((⟨(⟨0, 0⟩ : Tn), (⟨0, 0⟩ : Us), (⟨0, 0⟩ : Ss)⟩ : Sc), (⟨(⟨0, 0⟩ : Tn), (⟨0, 0⟩ : Us), (⟨0, 0⟩ : Ss)⟩ : Sc), false))
            else ((⟨(⟨0, 0⟩ : Tn), (⟨0, 0⟩ : Us), (⟨0, 0⟩ : Ss)⟩ : Sc), (⟨(⟨0, 0⟩ : Tn), (⟨0, 0⟩ : Us), (⟨0, 0⟩ : Ss)⟩ : Sc), false))
          else (d, e, true))
        else if b = true then (if (scalar_learn a c d e).2.2 = true then (if (scalar_Norm ((scalar_learn a c d e).1)).2 = true then (if (scalar_Norm ((scalar_learn a c d e).2.1)).2 = true then (((scalar_Norm ((scalar_learn a c d e).1)).1), ((scalar_Norm ((scalar_learn a c d e).2.1)).1), true)
              else ((⟨(⟨0, 0⟩ : Tn), (⟨0, 0⟩ : Us), (⟨0, 0⟩ : Ss)⟩ : Sc), (⟨(⟨0, 0⟩ : Tn), (⟨0, 0⟩ : Us), (⟨0, 0⟩ : Ss)⟩ : Sc), false))
            else ((⟨(⟨0, 0⟩ : Tn), (⟨0, 0⟩ : Us), (⟨0, 0⟩ : Ss)⟩ : Sc), (⟨(⟨0, 0⟩ : Tn), (⟨0, 0⟩ : Us), (⟨0, 0⟩ : Ss)⟩ : Sc), false))
          else ((⟨(⟨0, 0⟩ : Tn), (⟨0, 0⟩ : Us), (⟨0, 0⟩ : Ss)⟩ : Sc), (⟨(⟨0, 0⟩ : Tn), (⟨0, 0⟩ : Us), (⟨0, 0⟩ : Ss)⟩ : Sc), false))
        else (d, e, true))
      else if b = true then (if (scalar_learn a c d e).2.2 = true then (if (scalar_Norm ((scalar_learn a c d e).1)).2 = true then (if (scalar_Norm ((scalar_learn a c d e).2.1)).2 = true then (((scalar_Norm ((scalar_learn a c d e).1)).1), ((scalar_Norm ((scalar_learn a c d e).2.1)).1), true)
            else ((⟨(⟨0, 0⟩ : Tn), (⟨0, 0⟩ : Us), (⟨0, 0⟩ : Ss)⟩ : Sc), (⟨(⟨0, 0⟩ : Tn), (⟨0, 0⟩ : Us), (⟨0, 0⟩ : Ss)⟩ : Sc), false))
          else ((⟨(⟨0, 0⟩ : Tn), (⟨0, 0⟩ : Us), (⟨0, 0⟩ : Ss)⟩ : Sc), (⟨(⟨0, 0⟩ : Tn), (⟨0, 0⟩ : Us), (⟨0, 0⟩ : Ss)⟩ : Sc), false))
        else ((⟨(⟨0, 0⟩ : Tn), (⟨0, 0⟩ : Us), (⟨0, 0⟩ : Ss)⟩ : Sc), (⟨(⟨0, 0⟩ : Tn), (⟨0, 0⟩ : Us), (⟨0, 0⟩ : Ss)⟩ : Sc), false))
      else (d, e, true))
    else if a = 7 then (if (scalar_Within d (scalar_Upto 4)) = true then (if (scalar_Within e (scalar_Upto 4)) = true then (if b = true then (if (scalar_learn a c d e).2.2 = true then (if (scalar_Norm ((scalar_learn a c d e).1)).2 = true then (if (scalar_Norm ((scalar_learn a c d e).2.1)).2 = true then (((scalar_Norm ((scalar_learn a c d e).1)).1), ((scalar_Norm ((scalar_learn a c d e).2.1)).1), true)
                else ((⟨(⟨0, 0⟩ : Tn), (⟨0, 0⟩ : Us), (⟨0, 0⟩ : Ss)⟩ : Sc), (⟨(⟨0, 0⟩ : Tn), (⟨0, 0⟩ : Us), (⟨0, 0⟩ : Ss)⟩ : Sc), false))
              else ((⟨(⟨0, 0⟩ : Tn), (⟨0, 0⟩ : Us), (⟨0, 0⟩ : Ss)⟩ : Sc), (⟨(⟨0, 0⟩ : Tn), (⟨0, 0⟩ : Us), (⟨0, 0⟩ : Ss)⟩ : Sc), false))
            else ((⟨(⟨0, 0⟩ : Tn), (⟨0, 0⟩ : Us), (⟨0, 0⟩ : Ss)⟩ : Sc), (⟨(⟨0, 0⟩ : Tn), (⟨0, 0⟩ : Us), (⟨0, 0⟩ : Ss)⟩ : Sc), false))
          else if (if e.u.hi > d.u.hi then e.u.hi else d.u.hi) < 2147483648 then (if (scalar_learn a c d e).2.2 = true then (if (scalar_Norm ((scalar_learn a c d e).1)).2 = true then (if (scalar_Norm ((scalar_learn a c d e).2.1)).2 = true then (((scalar_Norm ((scalar_learn a c d e).1)).1), ((scalar_Norm ((scalar_learn a c d e).2.1)).1), true)
                else ((⟨(⟨0, 0⟩ : Tn), (⟨0, 0⟩ : Us), (⟨0, 0⟩ : Ss)⟩ : Sc), (⟨(⟨0, 0⟩ : Tn), (⟨0, 0⟩ : Us), (⟨0, 0⟩ : Ss)⟩ : Sc), false))
              else ((⟨(⟨0, 0⟩ : Tn), (⟨0, 0⟩ : Us), (⟨0, 0⟩ : Ss)⟩ : Sc), (⟨(⟨0, 0⟩ : Tn), (⟨0, 0⟩ : Us), (⟨0, 0⟩ : Ss)⟩ : Sc), false))
            else ((⟨(⟨0, 0⟩ : Tn), (⟨0, 0⟩ : Us), (⟨0, 0⟩ : Ss)⟩ : Sc), (⟨(⟨0, 0⟩ : Tn), (⟨0, 0⟩ : Us), (⟨0, 0⟩ : Ss)⟩ : Sc), false))
          else (d, e, true))
        else if b = true then (if (scalar_learn a c d e).2.2 = true then (if (scalar_Norm ((scalar_learn a c d e).1)).2 = true then (if (scalar_Norm ((scalar_learn a c d e).2.1)).2 = true then (((scalar_Norm ((scalar_learn a c d e).1)).1), ((scalar_Norm ((scalar_learn a c d e).2.1)).1), true)
              else ((⟨(⟨0, 0⟩ : Tn), (⟨0, 0⟩ : Us), (⟨0, 0⟩ : Ss)⟩ : Sc), (⟨(⟨0, 0⟩ : Tn), (⟨0, 0⟩ : Us), (⟨0, 0⟩ : Ss)⟩ : Sc), false))
            else ((⟨(⟨0, 0⟩ : Tn), (⟨0, 0⟩ : Us), (⟨0, 0⟩ : Ss)⟩ : Sc), (⟨(⟨0, 0⟩ : Tn), (⟨0, 0⟩ : Us), (⟨0, 0⟩ : Ss)⟩ : Sc), false))
          else ((⟨(⟨0, 0⟩ : Tn), (⟨0, 0⟩ : Us), (⟨0, 0⟩ : Ss)⟩ : Sc), (⟨(⟨0, 0⟩ : Tn), (⟨0, 0⟩ : Us), (⟨0, 0⟩ : Ss)⟩ : Sc), false))
        else (d, e, true))
      else if b = true then (if (scalar_learn a c d e).2.2 = true then (if (scalar_Norm ((scalar_learn a c d e).1)).2 = true then (if (scalar_Norm ((scalar_learn a c d e).2.1)).2 = true then (((scalar_Norm ((scalar_learn a c d e).1)).1), ((scalar_Norm ((scalar_learn a c d e).2.1)).1), true)
            else ((⟨(⟨0, 0⟩ : Tn), (⟨0, 0⟩ : Us), (⟨0, 0⟩ : Ss)⟩ : Sc), (⟨(⟨0, 0⟩ : Tn), (⟨0, 0⟩ : Us), (⟨0, 0⟩ : Ss)⟩ : Sc), false))
          else ((⟨(⟨0, 0⟩ : Tn), (⟨0, 0⟩ : Us), (⟨0, 0⟩ : Ss)⟩ : Sc), (⟨(⟨0, 0⟩ : Tn), (⟨0, 0⟩ : Us), (⟨0, 0⟩ : Ss)⟩ : Sc), false))
        else ((⟨(⟨0, 0⟩ : Tn), (⟨0, 0⟩ : Us), (⟨0, 0⟩ : Ss)⟩ : Sc), (⟨(⟨0, 0⟩ : Tn), (⟨0, 0⟩ : Us), (⟨0, 0⟩ : Ss)⟩ : Sc), false))
      else (d, e, true))
    else if a = 12 then (if (scalar_Within d (scalar_Upto 4)) = true then (if (scalar_Within e (scalar_Upto 4)) = true then (if b = true then (if (scalar_learn a c d e).2.2 = true then (if (scalar_Norm ((scalar_learn a c d e).1)).2 = true then (if (scalar_Norm ((scalar_learn a c d e).2.1)).2 = true then (((scalar_Norm ((scalar_learn a c d e).1)).1), ((scalar_Norm ((scalar_learn a c d e).2.1)).1), true)
                else ((⟨(⟨0, 0⟩ : Tn), (⟨0, 0⟩ : Us), (⟨0, 0⟩ : Ss)⟩ : Sc), (⟨(⟨0, 0⟩ : Tn), (⟨0, 0⟩ : Us), (⟨0, 0⟩ : Ss)⟩ : Sc), false))
              else ((⟨(⟨0, 0⟩ : Tn), (⟨0, 0⟩ : Us), (⟨0, 0⟩ : Ss)⟩ : Sc), (⟨(⟨0, 0⟩ : Tn), (⟨0, 0⟩ : Us), (⟨0, 0⟩ : Ss)⟩ : Sc), false))
            else ((⟨(⟨0, 0⟩ : Tn), (⟨0, 0⟩ : Us), (⟨0, 0⟩ : Ss)⟩ : Sc), (⟨(⟨0, 0⟩ : Tn), (⟨0, 0⟩ : Us), (⟨0, 0⟩ : Ss)⟩ : Sc), false))
          else if (if e.u.hi > d.u.hi then e.u.hi else d.u.hi) < 2147483648 then (if (scalar_learn a c d e).2.2 = true then (if (scalar_Norm ((scalar_learn a c d e).1)).2 = true then (if (scalar_Norm ((scalar_learn a c d e).2.1)).2 = true then (((scalar_Norm ((scalar_learn a c d e).1)).1), ((scalar_Norm ((scalar_learn a c d e).2.1)).1), true)
                else ((⟨(⟨0, 0⟩ : Tn), (⟨0, 0⟩ : Us), (⟨0, 0⟩ : Ss)⟩ : Sc), (⟨(⟨0, 0⟩ : Tn), (⟨0, 0⟩ : Us), (⟨0, 0⟩ : Ss)⟩ : Sc), false))
              else ((⟨(⟨0, 0⟩ : Tn), (⟨0, 0⟩ : Us), (⟨0, 0⟩ : Ss)⟩ : Sc), (⟨(⟨0, 0⟩ : Tn), (⟨0, 0⟩ : Us), (⟨0, 0⟩ : Ss)⟩ : Sc), false))
            else ((⟨(⟨0, 0⟩ : Tn), (⟨0, 0⟩ : Us), (⟨0, 0⟩ : Ss)⟩ : Sc), (⟨(⟨0, 0⟩ : Tn), (⟨0, 0⟩ : Us), (⟨0, 0⟩ : Ss)⟩ : Sc), false))
          else (d, e, true))
        else if b = true then (if (scalar_learn a c d e).2.2 = true then (if (scalar_Norm ((scalar_learn a c d e).1)).2 = true then (if (scalar_Norm ((scalar_learn a c d e).2.1)).2 = true then (((scalar_Norm ((scalar_learn a c d e).1)).1), ((scalar_Norm ((scalar_learn a c d e).2.1)).1), true)
              else ((⟨(⟨0, 0⟩ : Tn), (⟨0, 0⟩ : Us), (⟨0, 0⟩ : Ss)⟩ : Sc), (⟨(⟨0, 0⟩ : Tn), (⟨0, 0⟩ : Us), (⟨0, 0⟩ : Ss)⟩ : Sc), false))
            else ((⟨(⟨0, 0⟩ : Tn), (⟨0, 0⟩ : Us), (⟨0, 0⟩ : Ss)⟩ : Sc), (⟨(⟨0, 0⟩ : Tn), (⟨0, 0⟩ : Us), (⟨0, 0⟩ : Ss)⟩ : Sc), false))
          else ((⟨(⟨0, 0⟩ : Tn), (⟨0, 0⟩ : Us), (⟨0, 0⟩ : Ss)⟩ : Sc), (⟨(⟨0, 0⟩ : Tn), (⟨0, 0⟩ : Us), (⟨0, 0⟩ : Ss)⟩ : Sc), false))
        else (d, e, true))
      else if b = true then (if (scalar_learn a c d e).2.2 = true then (if (scalar_Norm ((scalar_learn a c d e).1)).2 = true then (if (scalar_Norm ((scalar_learn a c d e).2.1)).2 = true then (((scalar_Norm ((scalar_learn a c d e).1)).1), ((scalar_Norm ((scalar_learn a c d e).2.1)).1), true)
            else ((⟨(⟨0, 0⟩ : Tn), (⟨0, 0⟩ : Us), (⟨0, 0⟩ : Ss)⟩ : Sc), (⟨(⟨0, 0⟩ : Tn), (⟨0, 0⟩ : Us), (⟨0, 0⟩ : Ss)⟩ : Sc), false))
          else ((⟨(⟨0, 0⟩ : Tn), (⟨0, 0⟩ : Us), (⟨0, 0⟩ : Ss)⟩ : Sc), (⟨(⟨0, 0⟩ : Tn), (⟨0, 0⟩ : Us), (⟨0, 0⟩ : Ss)⟩ : Sc), false))
        else ((⟨(⟨0, 0⟩ : Tn), (⟨0, 0⟩ : Us), (⟨0, 0⟩ : Ss)⟩ : Sc), (⟨(⟨0, 0⟩ : Tn), (⟨0, 0⟩ : Us), (⟨0, 0⟩ : Ss)⟩ : Sc), false))
      else (d, e, true))
    else if (scalar_Within d (scalar_Upto 4)) = true then (if (scalar_Within e (scalar_Upto 4)) = true then (if a = 13 then (if b = true then (if (scalar_learn a c d e).2.2 = true then (if (scalar_Norm ((scalar_learn a c d e).1)).2 = true then (if (scalar_Norm ((scalar_learn a c d e).2.1)).2 = true then (((scalar_Norm ((scalar_learn a c d e).1)).1), ((scalar_Norm ((scalar_learn a c d e).2.1)).1), true)
                else ((⟨(⟨0, 0⟩ : Tn), (⟨0, 0⟩ : Us), (⟨0, 0⟩ : Ss)⟩ : Sc), (⟨(⟨0, 0⟩ : Tn), (⟨0, 0⟩ : Us), (⟨0, 0⟩ : Ss)⟩ : Sc), false))
              else ((⟨(⟨0, 0⟩ : Tn), (⟨0, 0⟩ : Us), (⟨0, 0⟩ : Ss)⟩ : Sc), (⟨(⟨0, 0⟩ : Tn), (⟨0, 0⟩ : Us), (⟨0, 0⟩ : Ss)⟩ : Sc), false))
            else ((⟨(⟨0, 0⟩ : Tn), (⟨0, 0⟩ : Us), (⟨0, 0⟩ : Ss)⟩ : Sc), (⟨(⟨0, 0⟩ : Tn), (⟨0, 0⟩ : Us), (⟨0, 0⟩ : Ss)⟩ : Sc), false))
          else if (if e.u.hi > d.u.hi then e.u.hi else d.u.hi) < 2147483648 then (if (scalar_learn a c d e).2.2 = true then (if (scalar_Norm ((scalar_learn a c d e).1)).2 = true then (if (scalar_Norm ((scalar_learn a c d e).2.1)).2 = true then (((scalar_Norm ((scalar_learn a c d e).1)).1), ((scalar_Norm ((scalar_learn a c d e).2.1)).1), true)
                else ((⟨(⟨0, 0⟩ : Tn), (⟨0, 0⟩ : Us), (⟨0, 0⟩ : Ss)⟩ : Sc), (⟨(⟨0, 0⟩ : Tn), (⟨0, 0⟩ : Us), (⟨0, 0⟩ : Ss)⟩ : Sc), false))
              else ((⟨(⟨0, 0⟩ : Tn), (⟨0, 0⟩ : Us), (⟨0, 0⟩ : Ss)⟩ : Sc), (⟨(⟨0, 0⟩ : Tn), (⟨0, 0⟩ : Us), (⟨0, 0⟩ : Ss)⟩ : Sc), false))
            else ((⟨(⟨0, 0⟩ : Tn), (⟨0, 0⟩ : Us), (⟨0, 0⟩ : Ss)⟩ : Sc), (⟨(⟨0, 0⟩ : Tn), (⟨0, 0⟩ : Us), (⟨0, 0⟩ : Ss)⟩ : Sc), false))
          else (d, e, true))
        else if b = true then (if (scalar_learn a c d e).2.2 = true then (if (scalar_Norm ((scalar_learn a c d e).1)).2 = true then (if (scalar_Norm ((scalar_learn a c d e).2.1)).2 = true then (((scalar_Norm ((scalar_learn a c d e).1)).1), ((scalar_Norm ((scalar_learn a c d e).2.1)).1), true)
              else ((⟨(⟨0, 0⟩ : Tn), (⟨0, 0⟩ : Us), (⟨0, 0⟩ : Ss)⟩ : Sc), (⟨(⟨0, 0⟩ : Tn), (⟨0, 0⟩ : Us), (⟨0, 0⟩ : Ss)⟩ : Sc), false))
            else ((⟨(⟨0, 0⟩ : Tn), (⟨0, 0⟩ : Us), (⟨0, 0⟩ : Ss)⟩ : Sc), (⟨(⟨0, 0⟩ : Tn), (⟨0, 0⟩ : Us), (⟨0, 0⟩ : Ss)⟩ : Sc), false))
          else ((⟨(⟨0, 0⟩ : Tn), (⟨0, 0⟩ : Us), (⟨0, 0⟩ : Ss)⟩ : Sc), (⟨(⟨0, 0⟩ : Tn), (⟨0, 0⟩ : Us), (⟨0, 0⟩ : Ss)⟩ : Sc), false))
        else if (scalar_learn a c d e).2.2 = true then (if (scalar_Norm ((scalar_learn a c d e).1)).2 = true then (if (scalar_Norm ((scalar_learn a c d e).2.1)).2 = true then (((scalar_Norm ((scalar_learn a c d e).1)).1), ((scalar_Norm ((scalar_learn a c d e).2.1)).1), true)
            else ((⟨(⟨0, 0⟩ : Tn), (⟨0, 0⟩ : Us), (⟨0, 0⟩ : Ss)⟩ : Sc), (⟨(⟨0, 0⟩ : Tn), (⟨0, 0⟩ : Us), (⟨0, 0⟩ : Ss)⟩ : Sc), false))
          else ((⟨(⟨0, 0⟩ : Tn), (⟨0, 0⟩ : Us), (⟨0, 0⟩ : Ss)⟩ : Sc), (⟨(⟨0, 0⟩ : Tn), (⟨0, 0⟩ : Us), (⟨0, 0⟩ : Ss)⟩ : Sc), false))
        else ((⟨(⟨0, 0⟩ : Tn), (⟨0, 0⟩ : Us), (⟨0, 0⟩ : Ss)⟩ : Sc), (⟨(⟨0, 0⟩ : Tn), (⟨0, 0⟩ : Us), (⟨0, 0⟩ : Ss)⟩ : Sc), false))
      else if b = true then (if (scalar_learn a c d e).2.2 = true then (if (scalar_Norm ((scalar_learn a c d e).1)).2 = true then (if (scalar_Norm ((scalar_learn a c d e).2.1)).2 = true then (((scalar_Norm ((scalar_learn a c d e).1)).1), ((scalar_Norm ((scalar_learn a c d e).2.1)).1), true)
            else ((⟨(⟨0, 0⟩ : Tn), (⟨0, 0⟩ : Us), (⟨0, 0⟩ : Ss)⟩ : Sc), (⟨(⟨0, 0⟩ : Tn), (⟨0, 0⟩ : Us), (⟨0, 0⟩ : Ss)⟩ : Sc), false))
          else ((⟨(⟨0, 0⟩ : Tn), (⟨0, 0⟩ : Us), (⟨0, 0⟩ : Ss)⟩ : Sc), (⟨(⟨0, 0⟩ : Tn), (⟨0, 0⟩ : Us), (⟨0, 0⟩ : Ss)⟩ : Sc), false))
        else ((⟨(⟨0, 0⟩ : Tn), (⟨0, 0⟩ : Us), (⟨0, 0⟩ : Ss)⟩ : Sc), (⟨(⟨0, 0⟩ : Tn), (⟨0, 0⟩ : Us), (⟨0, 0⟩ : Ss)⟩ : Sc), false))
      else (d, e, true))
    else if b = true then (if (scalar_learn a c d e).2.2 = true then (if (scalar_Norm ((scalar_learn a c d e).1)).2 = true then (if (scalar_Norm ((scalar_learn a c d e).2.1)).2 = true then (((scalar_Norm ((scalar_learn a c d e).1)).1), ((scalar_Norm ((scalar_learn a c d e).2.1)).1), true)
          else ((⟨(⟨0, 0⟩ : Tn), (⟨0, 0⟩ : Us), (⟨0, 0⟩ : Ss)⟩ : Sc), (⟨(⟨0, 0⟩ : Tn), (⟨0, 0⟩ : Us), (⟨0, 0⟩ : Ss)⟩ : Sc), false))
        else ((⟨(⟨0, 0⟩ : Tn), (⟨0, 0⟩ : Us), (⟨0, 0⟩ : Ss)⟩ : Sc), (⟨(⟨0, 0⟩ : Tn), (⟨0, 0⟩ : Us), (⟨0, 0⟩ : Ss)⟩ : Sc), false))
      else ((⟨(⟨0, 0⟩ : Tn), (⟨0, 0⟩ : Us), (⟨0, 0⟩ : Ss)⟩ : Sc), (⟨(⟨0, 0⟩ : Tn), (⟨0, 0⟩ : Us), (⟨0, 0⟩ : Ss)⟩ : Sc), false))
    else (d, e, true))
  else (d, e, true)
def lockgatelaw05_known : Bool :=
  if (scalar_Is (scalar_Alu 0 true (scalar_Of 3) (scalar_Of 4))).2 = true then (if (scalar_Is (scalar_Alu 0 true (scalar_Of 3) (scalar_Of 4))).1 = 7 then (if (scalar_Branch 10 true true scalar_Any (scalar_Of 10)).2.2 = true then (if ((((scalar_Branch 10 true true scalar_Any (scalar_Of 10)).1).u.lo == 0) && (((scalar_Branch 10 true true scalar_Any (scalar_Of 10)).1).u.hi == 9)) = true then (if (scalar_Branch 10 true true scalar_Any (scalar_Of 0)).2.2 = true then false
          else if (scalar_In scalar_Any 5) = true then (!(scalar_In (scalar_Upto 1) 256))
          else false)
        else false)
      else false)
    else false)
  else false
def lockgateref05_Alu_1 (b : Bool) (c : Sc) (d : Sc) : Sc :=
  if b = true then (if (lockgateref05_Is c).2 = true then (if (lockgateref05_Is d).2 = true then (lockgateref05_Of ((lockgateref01_Alu 1 b ((lockgateref05_Is c).1) ((lockgateref05_Is d).1)).1))
      else (lockgateref05_settle (lockgateref05_parts 1 c d) b))
    else (lockgateref05_settle (lockgateref05_parts 1 c d) b))
  else if (lockgateref05_Is (lockgateref05_Half c)).2 = true then (if (lockgateref05_Is (lockgateref05_Half d)).2 = true then (lockgateref05_Of ((lockgateref01_Alu 1 b ((lockgateref05_Is (lockgateref05_Half c)).1) ((lockgateref05_Is (lockgateref05_Half d)).1)).1))
    else (lockgateref05_settle (lockgateref05_parts 1 (lockgateref05_Half c) (lockgateref05_Half d)) b))
  else (lockgateref05_settle (lockgateref05_parts 1 (lockgateref05_Half c) (lockgateref05_Half d)) b)
def lockgateref05_Alu_8 (b : Bool) (c : Sc) (d : Sc) : Sc :=
  if b = true then (if (lockgateref05_Is c).2 = true then (if (lockgateref05_Is d).2 = true then (lockgateref05_Of ((lockgateref01_Alu 8 b ((lockgateref05_Is c).1) ((lockgateref05_Is d).1)).1))
      else (lockgateref05_Of ((lockgateref01_Alu 8 b ((lockgateref05_Is c).1) ((lockgateref05_Is d).1)).1)))
    else (lockgateref05_Alu_1 b (lockgateref05_Of 0) c))
  else if (lockgateref05_Is (lockgateref05_Half c)).2 = true then (if (lockgateref05_Is (lockgateref05_Half d)).2 = true then (lockgateref05_Of ((lockgateref01_Alu 8 b ((lockgateref05_Is (lockgateref05_Half c)).1) ((lockgateref05_Is (lockgateref05_Half d)).1)).1))
    else (lockgateref05_Of ((lockgateref01_Alu 8 b ((lockgateref05_Is (lockgateref05_Half c)).1) ((lockgateref05_Is (lockgateref05_Half d)).1)).1)))
  else (lockgateref05_Alu_1 b (lockgateref05_Of 0) (lockgateref05_Half c))
def lockgateref05_Alu_x (a : Int) (b : Bool) (c : Sc) (d : Sc) : Sc :=
  if (lockgateref01_Alu a b 0 0).2 = true then (if b = true then (if (lockgateref05_Is c).2 = true then (if (lockgateref05_Is d).2 = true then (lockgateref05_Of ((lockgateref01_Alu a b ((lockgateref05_Is c).1) ((lockgateref05_Is d).1)).1))
        else if a = 11 then d
        else if a = 6 then (lockgateref05_settle lockgateref05_Any b)
        else if a = 7 then (lockgateref05_settle lockgateref05_Any b)
        else if a = 12 then (lockgateref05_settle lockgateref05_Any b)
        else (lockgateref05_settle (lockgateref05_parts a c d) b))
      else if a = 11 then (if (lockgateref05_Is d).2 = true then (lockgateref05_Of ((lockgateref01_Alu a b ((lockgateref05_Is c).1) ((lockgateref05_Is d).1)).1))
        else d)
      else if a = 6 then (if (lockgateref05_Is d).2 = true then (lockgateref05_settle (lockgateref05_shift a b c (IntKind.i64.wrap (Int.tmod (lockgateref05_Is d).1 64))) b)
        else (lockgateref05_settle lockgateref05_Any b))
      else if a = 7 then (if (lockgateref05_Is d).2 = true then (lockgateref05_settle (lockgateref05_shift a b c (IntKind.i64.wrap (Int.tmod (lockgateref05_Is d).1 64))) b)
        else (lockgateref05_settle lockgateref05_Any b))
      else if a = 12 then (if (lockgateref05_Is d).2 = true then (lockgateref05_settle (lockgateref05_shift a b c (IntKind.i64.wrap (Int.tmod (lockgateref05_Is d).1 64))) b)
        else (lockgateref05_settle lockgateref05_Any b))
      else (lockgateref05_settle (lockgateref05_parts a c d) b))
    else if (lockgateref05_Is (lockgateref05_Half c)).2 = true then (if (lockgateref05_Is (lockgateref05_Half d)).2 = true then (lockgateref05_Of ((lockgateref01_Alu a b ((lockgateref05_Is (lockgateref05_Half c)).1) ((lockgateref05_Is (lockgateref05_Half d)).1)).1))
      else if a = 11 then (lockgateref05_Half d)
      else if a = 6 then (lockgateref05_settle lockgateref05_Any b)
      else if a = 7 then (lockgateref05_settle lockgateref05_Any b)
      else if a = 12 then (lockgateref05_settle lockgateref05_Any b)
      else (lockgateref05_settle (lockgateref05_parts a (lockgateref05_Half c) (lockgateref05_Half d)) b))
    else if a = 11 then (if (lockgateref05_Is (lockgateref05_Half d)).2 = true then (lockgateref05_Of ((lockgateref01_Alu a b ((lockgateref05_Is (lockgateref05_Half c)).1) ((lockgateref05_Is (lockgateref05_Half d)).1)).1))
      else (lockgateref05_Half d))
    else if a = 6 then (if (lockgateref05_Is (lockgateref05_Half d)).2 = true then (lockgateref05_settle (lockgateref05_shift a b (lockgateref05_Half c) (IntKind.i64.wrap (Int.tmod (lockgateref05_Is (lockgateref05_Half d)).1 32))) b)
      else (lockgateref05_settle lockgateref05_Any b))
    else if a = 7 then (if (lockgateref05_Is (lockgateref05_Half d)).2 = true then (lockgateref05_settle (lockgateref05_shift a b (lockgateref05_Half c) (IntKind.i64.wrap (Int.tmod (lockgateref05_Is (lockgateref05_Half d)).1 32))) b)
      else (lockgateref05_settle lockgateref05_Any b))
    else if a = 12 then (if (lockgateref05_Is (lockgateref05_Half d)).2 = true then (lockgateref05_settle (lockgateref05_shift a b (lockgateref05_Half c) (IntKind.i64.wrap (Int.tmod (lockgateref05_Is (lockgateref05_Half d)).1 32))) b)
      else (lockgateref05_settle lockgateref05_Any b))
    else (lockgateref05_settle (lockgateref05_parts a (lockgateref05_Half c) (lockgateref05_Half d)) b))
  else lockgateref05_Any
def lockgateref05_Alu (a : Int) (b : Bool) (c : Sc) (d : Sc) : Sc :=
  if a = 1 then lockgateref05_Alu_1 b c d else
  if a = 8 then lockgateref05_Alu_8 b c d else
  lockgateref05_Alu_x a b c d
def lockgateref05_learn (a : Int) (b : Bool) (c : Sc) (d : Sc) : (Sc × Sc × Bool) :=
  if b = true then (if (lockgateref05_Is d).2 = true then (if (lockgateref05_Is c).2 = true then (if (lockgateref03_Meet c.t (⟨0, (Go.bits .xor .u64 18446744073709551615 (lockgateref05_Is d).1)⟩ : Tn)).2 = true then ((⟨((lockgateref03_Meet c.t (⟨0, (Go.bits .xor .u64 18446744073709551615 (lockgateref05_Is d).1)⟩ : Tn)).1), c.u, c.s⟩ : Sc), (⟨((lockgateref03_Meet d.t (⟨0, (Go.bits .xor .u64 18446744073709551615 (lockgateref05_Is c).1)⟩ : Tn)).1), d.u, d.s⟩ : Sc), (lockgateref03_Meet d.t (⟨0, (Go.bits .xor .u64 18446744073709551615 (lockgateref05_Is c).1)⟩ : Tn)).2)
        else ((⟨((lockgateref03_Meet c.t (⟨0, (Go.bits .xor .u64 18446744073709551615 (lockgateref05_Is d).1)⟩ : Tn)).1), c.u, c.s⟩ : Sc), (⟨((lockgateref03_Meet d.t (⟨0, (Go.bits .xor .u64 18446744073709551615 (lockgateref05_Is c).1)⟩ : Tn)).1), d.u, d.s⟩ : Sc), false))
      else if (lockgateref03_Meet c.t (⟨0, (Go.bits .xor .u64 18446744073709551615 (lockgateref05_Is d).1)⟩ : Tn)).2 = true then ((⟨((lockgateref03_Meet c.t (⟨0, (Go.bits .xor .u64 18446744073709551615 (lockgateref05_Is d).1)⟩ : Tn)).1), c.u, c.s⟩ : Sc), d, true)
      else ((⟨((lockgateref03_Meet c.t (⟨0, (Go.bits .xor .u64 18446744073709551615 (lockgateref05_Is d).1)⟩ : Tn)).1), c.u, c.s⟩ : Sc), d, false))
    else if (lockgateref05_Is c).2 = true then (c, (⟨((lockgateref03_Meet d.t (⟨0, (Go.bits .xor .u64 18446744073709551615 (lockgateref05_Is c).1)⟩ : Tn)).1), d.u, d.s⟩ : Sc), (lockgateref03_Meet d.t (⟨0, (Go.bits .xor .u64 18446744073709551615 (lockgateref05_Is c).1)⟩ : Tn)).2)
    else (c, d, true))
  else if a = 1 then (if (lockgateref05_meet c d).2 = true then (((lockgateref05_meet c d).1), ((lockgateref05_meet c d).1), true)
    else (((lockgateref05_meet c d).1), ((lockgateref05_meet c d).1), false))
  else if a = 5 then (if (lockgateref05_Is d).2 = true then (if (lockgateref05_Is c).2 = true then (if (lockgateref05_without c ((lockgateref05_Is d).1)).2 = true then (((lockgateref05_without c ((lockgateref05_Is d).1)).1), ((lockgateref05_without d ((lockgateref05_Is c).1)).1), (lockgateref05_without d ((lockgateref05_Is c).1)).2)
        else (((lockgateref05_without c ((lockgateref05_Is d).1)).1), ((lockgateref05_without d ((lockgateref05_Is c).1)).1), false))
      else if (lockgateref05_without c ((lockgateref05_Is d).1)).2 = true then (((lockgateref05_without c ((lockgateref05_Is d).1)).1), d, true)
      else (((lockgateref05_without c ((lockgateref05_Is d).1)).1), d, false))
    else if (lockgateref05_Is c).2 = true then (c, ((lockgateref05_without d ((lockgateref05_Is c).1)).1), (lockgateref05_without d ((lockgateref05_Is c).1)).2)
    else (c, d, true))
  else if a = 10 then (if (lockgateref05_less c.u d.u (a == 11)).2.2 = true then ((⟨c.t, ((lockgateref05_less c.u d.u (a == 11)).1), c.s⟩ : Sc), (⟨d.t, ((lockgateref05_less c.u d.u (a == 11)).2.1), d.s⟩ : Sc), true)
    else ((⟨c.t, ((lockgateref05_less c.u d.u (a == 11)).1), c.s⟩ : Sc), (⟨d.t, ((lockgateref05_less c.u d.u (a == 11)).2.1), d.s⟩ : Sc), false))
  else if a = 11 then (if (lockgateref05_less c.u d.u (a == 11)).2.2 = true then ((⟨c.t, ((lockgateref05_less c.u d.u (a == 11)).1), c.s⟩ : Sc), (⟨d.t, ((lockgateref05_less c.u d.u (a == 11)).2.1), d.s⟩ : Sc), true)
    else ((⟨c.t, ((lockgateref05_less c.u d.u (a == 11)).1), c.s⟩ : Sc), (⟨d.t, ((lockgateref05_less c.u d.u (a == 11)).2.1), d.s⟩ : Sc), false))
  else if a = 2 then (if (lockgateref05_less d.u c.u (a == 3)).2.2 = true then ((⟨c.t, ((lockgateref05_less d.u c.u (a == 3)).2.1), c.s⟩ : Sc), (⟨d.t, ((lockgateref05_less d.u c.u (a == 3)).1), d.s⟩ : Sc), true)
    else ((⟨c.t, ((lockgateref05_less d.u c.u (a == 3)).2.1), c.s⟩ : Sc), (⟨d.t, ((lockgateref05_less d.u c.u (a == 3)).1), d.s⟩ : Sc), false))
  else if a = 3 then (if (lockgateref05_less d.u c.u (a == 3)).2.2 = true then ((⟨c.t, ((lockgateref05_less d.u c.u (a == 3)).2.1), c.s⟩ : Sc), (⟨d.t, ((lockgateref05_less d.u c.u (a == 3)).1), d.s⟩ : Sc), true)
    else ((⟨c.t, ((lockgateref05_less d.u c.u (a == 3)).2.1), c.s⟩ : Sc), (⟨d.t, ((lockgateref05_less d.u c.u (a == 3)).1), d.s⟩ : Sc), false))
  else if a = 12 then (if (lockgateref05_under c.s d.s (a == 13)).2.2 = true then ((⟨c.t, c.u, ((lockgateref05_under c.s d.s (a == 13)).1)⟩ : Sc), (⟨d.t, d.u, ((lockgateref05_under c.s d.s (a == 13)).2.1)⟩ : Sc), true)
    else ((⟨c.t, c.u, ((lockgateref05_under c.s d.s (a == 13)).1)⟩ : Sc), (⟨d.t, d.u, ((lockgateref05_under c.s d.s (a == 13)).2.1)⟩ : Sc), false))
  else if a = 13 then (if (lockgateref05_under c.s d.s (a == 13)).2.2 = true then ((⟨c.t, c.u, ((lockgateref05_under c.s d.s (a == 13)).1)⟩ : Sc), (⟨d.t, d.u, ((lockgateref05_under c.s d.s (a == 13)).2.1)⟩ : Sc), true)
    else ((⟨c.t, c.u, ((lockgateref05_under c.s d.s (a == 13)).1)⟩ : Sc), (⟨d.t, d.u, ((lockgateref05_under c.s d.s (a == 13)).2.1)⟩ : Sc), false))
  else if a = 6 then (if (lockgateref05_under d.s c.s (a == 7)).2.2 = true then ((⟨c.t, c.u, ((lockgateref05_under d.s c.s (a == 7)).2.1)⟩ : Sc), (⟨d.t, d.u, ((lockgateref05_under d.s c.s (a == 7)).1)⟩ : Sc), true)
    else ((⟨c.t, c.u, ((lockgateref05_under d.s c.s (a == 7)).2.1)⟩ : Sc), (⟨d.t, d.u, ((lockgateref05_under d.s c.s (a == 7)).1)⟩ : Sc), false))
  else if a = 7 then (if (lockgateref05_under d.s c.s (a == 7)).2.2 = true then ((⟨c.t, c.u, ((lockgateref05_under d.s c.s (a == 7)).2.1)⟩ : Sc), (⟨d.t, d.u, ((lockgateref05_under d.s c.s (a == 7)).1)⟩ : Sc), true)
    else ((⟨c.t, c.u, ((lockgateref05_under d.s c.s (a == 7)).2.1)⟩ : Sc), (⟨d.t, d.u, ((lockgateref05_under d.s c.s (a == 7)).1)⟩ : Sc), false))
  else (c, d, true)
def lockgateref05_Branch_1 (b : Bool) (c : Bool) (d : Sc) (e : Sc) : (Sc × Sc × Bool) :=
  if (lockgateref01_Jump 1 b ((lockgateref05_Is d).1) ((lockgateref05_Is e).1)).2 = true then (if (lockgateref05_Is d).2 = true then (if (lockgateref05_Is e).2 = true then (if (((lockgateref01_Jump 1 b ((lockgateref05_Is d).1) ((lockgateref05_Is e).1)).1) == c) = true then (d, e, true)
        else ((⟨(⟨0, 0⟩ : Tn), (⟨0, 0⟩ : Us), (⟨0, 0⟩ : Ss)⟩ : Sc), (⟨(⟨0, 0⟩ : Tn), (⟨0, 0⟩ : Us), (⟨0, 0⟩ : Ss)⟩ : Sc), false))
      else if b = true then (if c = true then (if (lockgateref05_learn 1 false d e).2.2 = true then (if (lockgateref05_Norm ((lockgateref05_learn 1 false d e).1)).2 = true then (if (lockgateref05_Norm ((lockgateref05_learn 1 false d e).2.1)).2 = true then (((lockgateref05_Norm ((lockgateref05_learn 1 false d e).1)).1), ((lockgateref05_Norm ((lockgateref05_learn 1 false d e).2.1)).1), true)
              else ((⟨(⟨0, 0⟩ : Tn), (⟨0, 0⟩ : Us), (⟨0, 0⟩ : Ss)⟩ : Sc), (⟨(⟨0, 0⟩ : Tn), (⟨0, 0⟩ : Us), (⟨0, 0⟩ : Ss)⟩ : Sc), false))
            else ((⟨(⟨0, 0⟩ : Tn), (⟨0, 0⟩ : Us), (⟨0, 0⟩ : Ss)⟩ : Sc), (⟨(⟨0, 0⟩ : Tn), (⟨0, 0⟩ : Us), (⟨0, 0⟩ : Ss)⟩ : Sc), false))
          else ((⟨(⟨0, 0⟩ : Tn), (⟨0, 0⟩ : Us), (⟨0, 0⟩ : Ss)⟩ : Sc), (⟨(⟨0, 0⟩ : Tn), (⟨0, 0⟩ : Us), (⟨0, 0⟩ : Ss)⟩ : Sc), false))
        else if (lockgateref05_learn 5 false d e).2.2 = true then (if (lockgateref05_Norm ((lockgateref05_learn 5 false d e).1)).2 = true then (if (lockgateref05_Norm ((lockgateref05_learn 5 false d e).2.1)).2 = true then (((lockgateref05_Norm ((lockgateref05_learn 5 false d e).1)).1), ((lockgateref05_Norm ((lockgateref05_learn 5 false d e).2.1)).1), true)
            else ((⟨(⟨0, 0⟩ : Tn), (⟨0, 0⟩ : Us), (⟨0, 0⟩ : Ss)⟩ : Sc), (⟨(⟨0, 0⟩ : Tn), (⟨0, 0⟩ : Us), (⟨0, 0⟩ : Ss)⟩ : Sc), false))
          else ((⟨(⟨0, 0⟩ : Tn), (⟨0, 0⟩ : Us), (⟨0, 0⟩ : Ss)⟩ : Sc), (⟨(⟨0, 0⟩ : Tn), (⟨0, 0⟩ : Us), (⟨0, 0⟩ : Ss)⟩ : Sc), false))
        else ((⟨(⟨0, 0⟩ : Tn), (⟨0, 0⟩ : Us), (⟨0, 0⟩ : Ss)⟩ : Sc), (⟨(⟨0, 0⟩ : Tn), (⟨0, 0⟩ : Us), (⟨0, 0⟩ : Ss)⟩ : Sc), false))
      else if (lockgateref05_Within d (lockgateref05_Upto 4)) = true then (if (lockgateref05_Within e (lockgateref05_Upto 4)) = true then (if c = true then (if (lockgateref05_learn 1 false d e).2.2 = true then (if (lockgateref05_Norm ((lockgateref05_learn 1 false d e).1)).2 = true then (if (lockgateref05_Norm ((lockgateref05_learn 1 false d e).2.1)).2 = true then (((lockgateref05_Norm ((lockgateref05_learn 1 false d e).1)).1), ((lockgateref05_Norm ((lockgateref05_learn 1 false d e).2.1)).1), true)
                else ((⟨(⟨0, 0⟩ : Tn), (⟨0, 0⟩ : Us), (⟨0, 0⟩ : Ss)⟩ : Sc), (⟨(⟨0, 0⟩ : Tn), (⟨0, 0⟩ : Us), (⟨0, 0⟩ : Ss)⟩ : Sc), false))
              else ((⟨(⟨0, 0⟩ : Tn), (⟨0, 0⟩ : Us), (⟨0, 0⟩ : Ss)⟩ : Sc), (⟨(⟨0, 0⟩ : Tn), (⟨0, 0⟩ : Us), (⟨0, 0⟩ : Ss)⟩ : Sc), false))
            else ((⟨(⟨0, 0⟩ : Tn), (⟨0, 0⟩ : Us), (⟨0, 0⟩ : Ss)⟩ : Sc), (⟨(⟨0, 0⟩ : Tn), (⟨0, 0⟩ : Us), (⟨0, 0⟩ : Ss)⟩ : Sc), false))
          else if (lockgateref05_learn 5 false d e).2.2 = true then (if (lockgateref05_Norm ((lockgateref05_learn 5 false d e).1)).2 = true then (if (lockgateref05_Norm ((lockgateref05_learn 5 false d e).2.1)).2 = true then (((lockgateref05_Norm ((lockgateref05_learn 5 false d e).1)).1), ((lockgateref05_Norm ((lockgateref05_learn 5 false d e).2.1)).1), true)
              else ((⟨(⟨0, 0⟩ : Tn), (⟨0, 0⟩ : Us), (⟨0, 0⟩ : Ss)⟩ : Sc), (⟨(⟨0, 0⟩ : Tn), (⟨0, 0⟩ : Us), (⟨0, 0⟩ : Ss)⟩ : Sc), false))
            else ((⟨(⟨0, 0⟩ : Tn), (⟨0, 0⟩ : Us), (⟨0, 0⟩ : Ss)⟩ : Sc), (⟨(⟨0, 0⟩ : Tn), (⟨0, 0⟩ : Us), (⟨0, 0⟩ : Ss)⟩ : Sc), false))
          else ((⟨(⟨0, 0⟩ : Tn), (⟨0, 0⟩ : Us), (⟨0, 0⟩ : Ss)⟩ : Sc), (⟨(⟨0, 0⟩ : Tn), (⟨0, 0⟩ : Us), (⟨0, 0⟩ : Ss)⟩ : Sc), false))
        else (d, e, true))
      else (d, e, true))
    else if b = true then (if c = true then (if (lockgateref05_learn 1 false d e).2.2 = true then (if (lockgateref05_Norm ((lockgateref05_learn 1 false d e).1)).2 = true then (if (lockgateref05_Norm ((lockgateref05_learn 1 false d e).2.1)).2 = true then (((lockgateref05_Norm ((lockgateref05_learn 1 false d e).1)).1), ((lockgateref05_Norm ((lockgateref05_learn 1 false d e).2.1)).1), true)
            else ((⟨(⟨0, 0⟩ : Tn), (⟨0, 0⟩ : Us), (⟨0, 0⟩ : Ss)⟩ : Sc), (⟨(⟨0, 0⟩ : Tn), (⟨0, 0⟩ : Us), (⟨0, 0⟩ : Ss)⟩ : Sc), false))
          else ((⟨(⟨0, 0⟩ : Tn), (⟨0, 0⟩ : Us), (⟨0, 0⟩ : Ss)⟩ : Sc), (⟨(⟨0, 0⟩ : Tn), (⟨0, 0⟩ : Us), (⟨0, 0⟩ : Ss)⟩ : Sc), false))
        else ((⟨(⟨0, 0⟩ : Tn), (⟨0, 0⟩ : Us), (⟨0, 0⟩ : Ss)⟩ : Sc), (⟨(⟨0, 0⟩ : Tn), (⟨0, 0⟩ : Us), (⟨0, 0⟩ : Ss)⟩ : Sc), false))
      else if (lockgateref05_learn 5 false d e).2.2 = true then (if (lockgateref05_Norm ((lockgateref05_learn 5 false d e).1)).2 = true then (if (lockgateref05_Norm ((lockgateref05_learn 5 false d e).2.1)).2 = true then (((lockgateref05_Norm ((lockgateref05_learn 5 false d e).1)).1), ((lockgateref05_Norm ((lockgateref05_learn 5 false d e).2.1)).1), true)
          else ((⟨(⟨0, 0⟩ : Tn), (⟨0, 0⟩ : Us), (⟨0, 0⟩ : Ss)⟩ : Sc), (⟨(⟨0, 0⟩ : Tn), (⟨0, 0⟩ : Us), (⟨0, 0⟩ : Ss)⟩ : Sc), false))
        else ((⟨(⟨0, 0⟩ : Tn), (⟨0, 0⟩ : Us), (⟨0, 0⟩ : Ss)⟩ : Sc), (⟨(⟨0, 0⟩ : Tn), (⟨0, 0⟩ : Us), (⟨0, 0⟩ : Ss)⟩ : Sc), false))
      else ((⟨(⟨0, 0⟩ : Tn), (⟨0, 0⟩ : Us), (⟨0, 0⟩ : Ss)⟩ : Sc), (⟨(⟨0, 0⟩ : Tn), (⟨0, 0⟩ : Us), (⟨0, 0⟩ : Ss)⟩ : Sc), false))
    else if (lockgateref05_Within d (lockgateref05_Upto 4)) = true then (if (lockgateref05_Within e (lockgateref05_Upto 4)) = true then (if c = true then (if (lockgateref05_learn 1 false d e).2.2 = true then (if (lockgateref05_Norm ((lockgateref05_learn 1 false d e).1)).2 = true then (if (lockgateref05_Norm ((lockgateref05_learn 1 false d e).2.1)).2 = true then (((lockgateref05_Norm ((lockgateref05_learn 1 false d e).1)).1), ((lockgateref05_Norm ((lockgateref05_learn 1 false d e).2.1)).1), true)
              else ((⟨(⟨0, 0⟩ : Tn), (⟨0, 0⟩ : Us), (⟨0, 0⟩ : Ss)⟩ : Sc), (⟨(⟨0, 0⟩ : Tn), (⟨0, 0⟩ : Us), (⟨0, 0⟩ : Ss)⟩ : Sc), false))
            else ((⟨(⟨0, 0⟩ : Tn), (⟨0, 0⟩ : Us), (⟨0, 0⟩ : Ss)⟩ : Sc), (⟨(⟨0, 0⟩ : Tn), (⟨0, 0⟩ : Us), (⟨0, 0⟩ : Ss)⟩ : Sc), false))
          else ((⟨(⟨0, 0⟩ : Tn), (⟨0, 0⟩ : Us), (⟨0, 0⟩ : Ss)⟩ : Sc), (⟨(⟨0, 0⟩ : Tn), (⟨0, 0⟩ : Us), (⟨0, 0⟩ : Ss)⟩ : Sc), false))
        else if (lockgateref05_learn 5 false d e).2.2 = true then (if (lockgateref05_Norm ((lockgateref05_learn 5 false d e).1)).2 = true then (if (lockgateref05_Norm ((lockgateref05_learn 5 false d e).2.1)).2 = true then (((lockgateref05_Norm ((lockgateref05_learn 5 false d e).1)).1), ((lockgateref05_Norm ((lockgateref05_learn 5 false d e).2.1)).1), true)
            else ((⟨(⟨0, 0⟩ : Tn), (⟨0, 0⟩ : Us), (⟨0, 0⟩ : Ss)⟩ : Sc), (⟨(⟨0, 0⟩ : Tn), (⟨0, 0⟩ : Us), (⟨0, 0⟩ : Ss)⟩ : Sc), false))
          else ((⟨(⟨0, 0⟩ : Tn), (⟨0, 0⟩ : Us), (⟨0, 0⟩ : Ss)⟩ : Sc), (⟨(⟨0, 0⟩ : Tn), (⟨0, 0⟩ : Us), (⟨0, 0⟩ : Ss)⟩ : Sc), false))
        else ((⟨(⟨0, 0⟩ : Tn), (⟨0, 0⟩ : Us), (⟨0, 0⟩ : Ss)⟩ : Sc), (⟨(⟨0, 0⟩ : Tn), (⟨0, 0⟩ : Us), (⟨0, 0⟩ : Ss)⟩ : Sc), false))
      else (d, e, true))
    else (d, e, true))
  else (d, e, true)
def lockgateref05_Branch_2 (b : Bool) (c : Bool) (d : Sc) (e : Sc) : (Sc × Sc × Bool) :=
  if (lockgateref01_Jump 2 b ((lockgateref05_Is d).1) ((lockgateref05_Is e).1)).2 = true then (if (lockgateref05_Is d).2 = true then (if (lockgateref05_Is e).2 = true then (if (((lockgateref01_Jump 2 b ((lockgateref05_Is d).1) ((lockgateref05_Is e).1)).1) == c) = true then (d, e, true)
        else ((⟨(⟨0, 0⟩ : Tn), (⟨0, 0⟩ : Us), (⟨0, 0⟩ : Ss)⟩ : Sc), (⟨(⟨0, 0⟩ : Tn), (⟨0, 0⟩ : Us), (⟨0, 0⟩ : Ss)⟩ : Sc), false))
      else if b = true then (if c = true then (if (lockgateref05_learn 2 false d e).2.2 = true then (if (lockgateref05_Norm ((lockgateref05_learn 2 false d e).1)).2 = true then (if (lockgateref05_Norm ((lockgateref05_learn 2 false d e).2.1)).2 = true then (((lockgateref05_Norm ((lockgateref05_learn 2 false d e).1)).1), ((lockgateref05_Norm ((lockgateref05_learn 2 false d e).2.1)).1), true)
              else ((⟨(⟨0, 0⟩ : Tn), (⟨0, 0⟩ : Us), (⟨0, 0⟩ : Ss)⟩ : Sc), (⟨(⟨0, 0⟩ : Tn), (⟨0, 0⟩ : Us), (⟨0, 0⟩ : Ss)⟩ : Sc), false))
            else ((⟨(⟨0, 0⟩ : Tn), (⟨0, 0⟩ : Us), (⟨0, 0⟩ : Ss)⟩ : Sc), (⟨(⟨0, 0⟩ : Tn), (⟨0, 0⟩ : Us), (⟨0, 0⟩ : Ss)⟩ : Sc), false))
          else ((⟨(⟨0, 0⟩ : Tn), (⟨0, 0⟩ : Us), (⟨0, 0⟩ : Ss)⟩ : Sc), (⟨(⟨0, 0⟩ : Tn), (⟨0, 0⟩ : Us), (⟨0, 0⟩ : Ss)⟩ : Sc), false))
        else if (lockgateref05_learn 11 false d e).2.2 = true then (if (lockgateref05_Norm ((lockgateref05_learn 11 false d e).1)).2 = true then (if (lockgateref05_Norm ((lockgateref05_learn 11 false d e).2.1)).2 = true then (((lockgateref05_Norm ((lockgateref05_learn 11 false d e).1)).1), ((lockgateref05_Norm ((lockgateref05_learn 11 false d e).2.1)).1), true)
            else ((⟨(⟨0, 0⟩ : Tn), (⟨0, 0⟩ : Us), (⟨0, 0⟩ : Ss)⟩ : Sc), (⟨(⟨0, 0⟩ : Tn), (⟨0, 0⟩ : Us), (⟨0, 0⟩ : Ss)⟩ : Sc), false))
          else ((⟨(⟨0, 0⟩ : Tn), (⟨0, 0⟩ : Us), (⟨0, 0⟩ : Ss)⟩ : Sc), (⟨(⟨0, 0⟩ : Tn), (⟨0, 0⟩ : Us), (⟨0, 0⟩ : Ss)⟩ : Sc), false))
        else ((⟨(⟨0, 0⟩ : Tn), (⟨0, 0⟩ : Us), (⟨0, 0⟩ : Ss)⟩ : Sc), (⟨(⟨0, 0⟩ : Tn), (⟨0, 0⟩ : Us), (⟨0, 0⟩ : Ss)⟩ : Sc), false))
      else if (lockgateref05_Within d (lockgateref05_Upto 4)) = true then (if (lockgateref05_Within e (lockgateref05_Upto 4)) = true then (if c = true then (if (lockgateref05_learn 2 false d e).2.2 = true then (if (lockgateref05_Norm ((lockgateref05_learn 2 false d e).1)).2 = true then (if (lockgateref05_Norm ((lockgateref05_learn 2 false d e).2.1)).2 = true then (((lockgateref05_Norm ((lockgateref05_learn 2 false d e).1)).1), ((lockgateref05_Norm ((lockgateref05_learn 2 false d e).2.1)).1), true)
                else ((⟨(⟨0, 0⟩ : Tn), (⟨0, 0⟩ : Us), (⟨0, 0⟩ : Ss)⟩ : Sc), (⟨(⟨0, 0⟩ : Tn), (⟨0, 0⟩ : Us), (⟨0, 0⟩ : Ss)⟩ : Sc), false))
              else ((⟨(⟨0, 0⟩ : Tn), (⟨0, 0⟩ : Us), (⟨0, 0⟩ : Ss)⟩ : Sc), (⟨(⟨0, 0⟩ : Tn), (⟨0, 0⟩ : Us), (⟨0, 0⟩ : Ss)⟩ : Sc), false))
            else ((⟨(⟨0, 0⟩ : Tn), (⟨0, 0⟩ : Us), (⟨0, 0⟩ : Ss)⟩ : Sc), (⟨(⟨0, 0⟩ : Tn), (⟨0, 0⟩ : Us), (⟨0, 0⟩ : Ss)⟩ : Sc), false))
          else if (lockgateref05_learn 11 false d e).2.2 = true then (if (lockgateref05_Norm ((lockgateref05_learn 11 false d e).1)).2 = true then (if (lockgateref05_Norm ((lockgateref05_learn 11 false d e).2.1)).2 = true then (((lockgateref05_Norm ((lockgateref05_learn 11 false d e).1)).1), ((lockgateref05_Norm ((lockgateref05_learn 11 false d e).2.1)).1), true)
              else ((⟨(⟨0, 0⟩ : Tn), (⟨0, 0⟩ : Us), (⟨0, 0⟩ : Ss)⟩ : Sc), (⟨(⟨0, 0⟩ : Tn), (⟨0, 0⟩ : Us), (⟨0, 0⟩ : Ss)⟩ : Sc), false))
            else ((⟨(⟨0, 0⟩ : Tn), (⟨0, 0⟩ : Us), (⟨0, 0⟩ : Ss)⟩ : Sc), (⟨(⟨0, 0⟩ : Tn), (⟨0, 0⟩ : Us), (⟨0, 0⟩ : Ss)⟩ : Sc), false))
          else ((⟨(⟨0, 0⟩ : Tn), (⟨0, 0⟩ : Us), (⟨0, 0⟩ : Ss)⟩ : Sc), (⟨(⟨0, 0⟩ : Tn), (⟨0, 0⟩ : Us), (⟨0, 0⟩ : Ss)⟩ : Sc), false))
        else (d, e, true))
      else (d, e, true))
    else if b = true then (if c = true then (if (lockgateref05_learn 2 false d e).2.2 = true then (if (lockgateref05_Norm ((lockgateref05_learn 2 false d e).1)).2 = true then (if (lockgateref05_Norm ((lockgateref05_learn 2 false d e).2.1)).2 = true then (((lockgateref05_Norm ((lockgateref05_learn 2 false d e).1)).1), ((lockgateref05_Norm ((lockgateref05_learn 2 false d e).2.1)).1), true)
            else ((⟨(⟨0, 0⟩ : Tn), (⟨0, 0⟩ : Us), (⟨0, 0⟩ : Ss)⟩ : Sc), (⟨(⟨0, 0⟩ : Tn), (⟨0, 0⟩ : Us), (⟨0, 0⟩ : Ss)⟩ : Sc), false))
          else ((⟨(⟨0, 0⟩ : Tn), (⟨0, 0⟩ : Us), (⟨0, 0⟩ : Ss)⟩ : Sc), (⟨(⟨0, 0⟩ : Tn), (⟨0, 0⟩ : Us), (⟨0, 0⟩ : Ss)⟩ : Sc), false))
        else ((⟨(⟨0, 0⟩ : Tn), (⟨0, 0⟩ : Us), (⟨0, 0⟩ : Ss)⟩ : Sc), (⟨(⟨0, 0⟩ : Tn), (⟨0, 0⟩ : Us), (⟨0, 0⟩ : Ss)⟩ : Sc), false))
      else if (lockgateref05_learn 11 false d e).2.2 = true then (if (lockgateref05_Norm ((lockgateref05_learn 11 false d e).1)).2 = true then (if (lockgateref05_Norm ((lockgateref05_learn 11 false d e).2.1)).2 = true then (((lockgateref05_Norm ((lockgateref05_learn 11 false d e).1)).1), ((lockgateref05_Norm ((lockgateref05_learn 11 false d e).2.1)).1), true)
          else ((⟨(⟨0, 0⟩ : Tn), (⟨0, 0⟩ : Us), (⟨0, 0⟩ : Ss)⟩ : Sc), (⟨(⟨0, 0⟩ : Tn), (⟨0, 0⟩ : Us), (⟨0, 0⟩ : Ss)⟩ : Sc), false))
        else ((⟨(⟨0, 0⟩ : Tn), (⟨0, 0⟩ : Us), (⟨0, 0⟩ : Ss)⟩ : Sc), (⟨(⟨0, 0⟩ : Tn), (⟨0, 0⟩ : Us), (⟨0, 0⟩ : Ss)⟩ : Sc), false))
      else ((⟨(⟨0, 0⟩ : Tn), (⟨0, 0⟩ : Us), (⟨0, 0⟩ : Ss)⟩ : Sc), (⟨(⟨0, 0⟩ : Tn), (⟨0, 0⟩ : Us), (⟨0, 0⟩ : Ss)⟩ : Sc), false))
    else if (lockgateref05_Within d (lockgateref05_Upto 4)) = true then (if (lockgateref05_Within e (lockgateref05_Upto 4)) = true then (if c = true then (if (lockgateref05_learn 2 false d e).2.2 = true then (if (lockgateref05_Norm ((lockgateref05_learn 2 false d e).1)).2 = true then (if (lockgateref05_Norm ((lockgateref05_learn 2 false d e).2.1)).2 = true then (((lockgateref05_Norm ((lockgateref05_learn 2 false d e).1)).1), ((lockgateref05_Norm ((lockgateref05_learn 2 false d e).2.1)).1), true)
              else ((⟨(⟨0, 0⟩ : Tn), (⟨0, 0⟩ : Us), (⟨0, 0⟩ : Ss)⟩ : Sc), (⟨(⟨0, 0⟩ : Tn), (⟨0, 0⟩ : Us), (⟨0, 0⟩ : Ss)⟩ : Sc), false))
            else ((⟨(⟨0, 0⟩ : Tn), (⟨0, 0⟩ : Us), (⟨0, 0⟩ : Ss)⟩ : Sc), (⟨(⟨0, 0⟩ : Tn), (⟨0, 0⟩ : Us), (⟨0, 0⟩ : Ss)⟩ : Sc), false))
          else ((⟨(⟨0, 0⟩ : Tn), (⟨0, 0⟩ : Us), (⟨0, 0⟩ : Ss)⟩ : Sc), (⟨(⟨0, 0⟩ : Tn), (⟨0, 0⟩ : Us), (⟨0, 0⟩ : Ss)⟩ : Sc), false))
        else if (lockgateref05_learn 11 false d e).2.2 = true then (if (lockgateref05_Norm ((lockgateref05_learn 11 false d e).1)).2 = true then (if (lockgateref05_Norm ((lockgateref05_learn 11 false d e).2.1)).2 = true then (((lockgateref05_Norm ((lockgateref05_learn 11 false d e).1)).1), ((lockgateref05_Norm ((lockgateref05_learn 11 false d e).2.1)).1), true)
            else ((⟨(⟨0, 0⟩ : Tn), (⟨0, 0⟩ : Us), (⟨0, 0⟩ : Ss)⟩ : Sc), (⟨(⟨0, 0⟩ : Tn), (⟨0, 0⟩ : Us), (⟨0, 0⟩ : Ss)⟩ : Sc), false))
          else ((⟨(⟨0, 0⟩ : Tn), (⟨0, 0⟩ : Us), (⟨0, 0⟩ : Ss)⟩ : Sc), (⟨(⟨0, 0⟩ : Tn), (⟨0, 0⟩ : Us), (⟨0, 0⟩ : Ss)⟩ : Sc), false))
        else ((⟨(⟨0, 0⟩ : Tn), (⟨0, 0⟩ : Us), (⟨0, 0⟩ : Ss)⟩ : Sc), (⟨(⟨0, 0⟩ : Tn), (⟨0, 0⟩ : Us), (⟨0, 0⟩ : Ss)⟩ : Sc), false))
      else (d, e, true))
    else (d, e, true))
  else (d, e, true)
def lockgateref05_Branch_3 (b : Bool) (c : Bool) (d : Sc) (e : Sc) : (Sc × Sc × Bool) :=
  if (lockgateref01_Jump 3 b ((lockgateref05_Is d).1) ((lockgateref05_Is e).1)).2 = true then (if (lockgateref05_Is d).2 = true then (if (lockgateref05_Is e).2 = true then (if (((lockgateref01_Jump 3 b ((lockgateref05_Is d).1) ((lockgateref05_Is e).1)).1) == c) = true then (d, e, true)
        else ((⟨(⟨0, 0⟩ : Tn), (⟨0, 0⟩ : Us), (⟨0, 0⟩ : Ss)⟩ : Sc), (⟨(⟨0, 0⟩ : Tn), (⟨0, 0⟩ : Us), (⟨0, 0⟩ : Ss)⟩ : Sc), false))
      else if b = true then (if c = true then (if (lockgateref05_learn 3 false d e).2.2 = true then (if (lockgateref05_Norm ((lockgateref05_learn 3 false d e).1)).2 = true then (if (lockgateref05_Norm ((lockgateref05_learn 3 false d e).2.1)).2 = true then (((lockgateref05_Norm ((lockgateref05_learn 3 false d e).1)).1), ((lockgateref05_Norm ((lockgateref05_learn 3 false d e).2.1)).1), true)
              else ((⟨(⟨0, 0⟩ : Tn), (⟨0, 0⟩ : Us), (⟨0, 0⟩ : Ss)⟩ : Sc), (⟨(⟨0, 0⟩ : Tn), (⟨0, 0⟩ : Us), (⟨0, 0⟩ : Ss)⟩ : Sc), false))
            else ((⟨(⟨0, 0⟩ : Tn), (⟨0, 0⟩ : Us), (⟨0, 0⟩ : Ss)⟩ : Sc), (⟨(⟨0, 0⟩ : Tn), (⟨0, 0⟩ : Us), (⟨0, 0⟩ : Ss)⟩ : Sc), false))
          else ((⟨(⟨0, 0⟩ : Tn), (⟨0, 0⟩ : Us), (⟨0, 0⟩ : Ss)⟩ : Sc), (⟨(⟨0, 0⟩ : Tn), (⟨0, 0⟩ : Us), (⟨0, 0⟩ : Ss)⟩ : Sc), false))
        else if (lockgateref05_learn 10 false d e).2.2 = true then (if (lockgateref05_Norm ((lockgateref05_learn 10 false d e).1)).2 = true then (if (lockgateref05_Norm ((lockgateref05_learn 10 false d e).2.1)).2 = true then (((lockgateref05_Norm ((lockgateref05_learn 10 false d e).1)).1), ((lockgateref05_Norm ((lockgateref05_learn 10 false d e).2.1)).1), true)
            else ((⟨(⟨0, 0⟩ : Tn), (⟨0, 0⟩ : Us), (⟨0, 0⟩ : Ss)⟩ : Sc), (⟨(⟨0, 0⟩ : Tn), (⟨0, 0⟩ : Us), (⟨0, 0⟩ : Ss)⟩ : Sc), false))
          else ((⟨(⟨0, 0⟩ : Tn), (⟨0, 0⟩ : Us), (⟨0, 0⟩ : Ss)⟩ : Sc), (⟨(⟨0, 0⟩ : Tn), (⟨0, 0⟩ : Us), (⟨0, 0⟩ : Ss)⟩ : Sc), false))
        else ((⟨(⟨0, 0⟩ : Tn), (⟨0, 0⟩ : Us), (⟨0, 0⟩ : Ss)⟩ : Sc), (⟨(⟨0, 0⟩ : Tn), (⟨0, 0⟩ : Us), (⟨0, 0⟩ : Ss)⟩ : Sc), false))
      else if (lockgateref05_Within d (lockgateref05_Upto 4)) = true then (if (lockgateref05_Within e (lockgateref05_Upto 4)) = true then (if c = true then (if (lockgateref05_learn 3 false d e).2.2 = true then (if (lockgateref05_Norm ((lockgateref05_learn 3 false d e).1)).2 = true then (if (lockgateref05_Norm ((lockgateref05_learn 3 false d e).2.1)).2 = true then (((lockgateref05_Norm ((lockgateref05_learn 3 false d e).1)).1), ((lockgateref05_Norm ((lockgateref05_learn 3 false d e).2.1)).1), true)
                else ((⟨(⟨0, 0⟩ : Tn), (⟨0, 0⟩ : Us), (⟨0, 0⟩ : Ss)⟩ : Sc), (⟨(⟨0, 0⟩ : Tn), (⟨0, 0⟩ : Us), (⟨0, 0⟩ : Ss)⟩ : Sc), false))
              else ((⟨(⟨0, 0⟩ : Tn), (⟨0, 0⟩ : Us), (⟨0, 0⟩ : Ss)⟩ : Sc), (⟨(⟨0, 0⟩ : Tn), (⟨0, 0⟩ : Us), (⟨0, 0⟩ : Ss)⟩ : Sc), false))
            else ((⟨(⟨0, 0⟩ : Tn), (⟨0, 0⟩ : Us), (⟨0, 0⟩ : Ss)⟩ : Sc), (⟨(⟨0, 0⟩ : Tn), (⟨0, 0⟩ : Us), (⟨0, 0⟩ : Ss)⟩ : Sc), false))
          else if (lockgateref05_learn 10 false d e).2.2 = true then (if (lockgateref05_Norm ((lockgateref05_learn 10 false d e).1)).2 = true then (if (lockgateref05_Norm ((lockgateref05_learn 10 false d e).2.1)).2 = true then (((lockgateref05_Norm ((lockgateref05_learn 10 false d e).1)).1), ((lockgateref05_Norm ((lockgateref05_learn 10 false d e).2.1)).1), true)
              else ((⟨(⟨0, 0⟩ : Tn), (⟨0, 0⟩ : Us), (⟨0, 0⟩ : Ss)⟩ : Sc), (⟨(⟨0, 0⟩ : Tn), (⟨0, 0⟩ : Us), (⟨0, 0⟩ : Ss)⟩ : Sc), false))
            else ((⟨(⟨0, 0⟩ : Tn), (⟨0, 0⟩ : Us), (⟨0, 0⟩ : Ss)⟩ : Sc), (⟨(⟨0, 0⟩ : Tn), (⟨0, 0⟩ : Us), (⟨0, 0⟩ : Ss)⟩ : Sc), false))
          else ((⟨(⟨0, 0⟩ : Tn), (⟨0, 0⟩ : Us), (⟨0, 0⟩ : Ss)⟩ : Sc), (⟨(⟨0, 0⟩ : Tn), (⟨0, 0⟩ : Us), (⟨0, 0⟩ : Ss)⟩ : Sc), false))
        else (d, e, true))
      else (d, e, true))
    else if b = true then (if c = true then (if (lockgateref05_learn 3 false d e).2.2 = true then (if (lockgateref05_Norm ((lockgateref05_learn 3 false d e).1)).2 = true then (if (lockgateref05_Norm ((lockgateref05_learn 3 false d e).2.1)).2 = true then (((lockgateref05_Norm ((lockgateref05_learn 3 false d e).1)).1), ((lockgateref05_Norm ((lockgateref05_learn 3 false d e).2.1)).1), true)
            else ((⟨(⟨0, 0⟩ : Tn), (⟨0, 0⟩ : Us), (⟨0, 0⟩ : Ss)⟩ : Sc), (⟨(⟨0, 0⟩ : Tn), (⟨0, 0⟩ : Us), (⟨0, 0⟩ : Ss)⟩ : Sc), false))
          else ((⟨(⟨0, 0⟩ : Tn), (⟨0, 0⟩ : Us), (⟨0, 0⟩ : Ss)⟩ : Sc), (⟨(⟨0, 0⟩ : Tn), (⟨0, 0⟩ : Us), (⟨0, 0⟩ : Ss)⟩ : Sc), false))
        else ((⟨(⟨0, 0⟩ : Tn), (⟨0, 0⟩ : Us), (⟨0, 0⟩ : Ss)⟩ : Sc), (⟨(⟨0, 0⟩ : Tn), (⟨0, 0⟩ : Us), (⟨0, 0⟩ : Ss)⟩ : Sc), false))
      else if (lockgateref05_learn 10 false d e).2.2 = true then (if (lockgateref05_Norm ((lockgateref05_learn 10 false d e).1)).2 = true then (if (lockgateref05_Norm ((lockgateref05_learn 10 false d e).2.1)).2 = true then (((lockgateref05_Norm ((lockgateref05_learn 10 false d e).1)).1), ((lockgateref05_Norm ((lockgateref05_learn 10 false d e).2.1)).1), true)
          else ((⟨(⟨0, 0⟩ : Tn), (⟨0, 0⟩ : Us), (⟨0, 0⟩ : Ss)⟩ : Sc), (⟨(⟨0, 0⟩ : Tn), (⟨0, 0⟩ : Us), (⟨0, 0⟩ : Ss)⟩ : Sc), false))
        else ((⟨(⟨0, 0⟩ : Tn), (⟨0, 0⟩ : Us), (⟨0, 0⟩ : Ss)⟩ : Sc), (⟨(⟨0, 0⟩ : Tn), (⟨0, 0⟩ : Us), (⟨0, 0⟩ : Ss)⟩ : Sc), false))
      else ((⟨(⟨0, 0⟩ : Tn), (⟨0, 0⟩ : Us), (⟨0, 0⟩ : Ss)⟩ : Sc), (⟨(⟨0, 0⟩ : Tn), (⟨0, 0⟩ : Us), (⟨0, 0⟩ : Ss)⟩ : Sc), false))
    else if (lockgateref05_Within d (lockgateref05_Upto 4)) = true then (if (lockgateref05_Within e (lockgateref05_Upto 4)) = true then (if c = true then (if (lockgateref05_learn 3 false d e).2.2 = true then (if (lockgateref05_Norm ((lockgateref05_learn 3 false d e).1)).2 = true then (if (lockgateref05_Norm ((lockgateref05_learn 3 false d e).2.1)).2 = true then (((lockgateref05_Norm ((lockgateref05_learn 3 false d e).1)).1), ((lockgateref05_Norm ((lockgateref05_learn 3 false d e).2.1)).1), true)
              else ((⟨(⟨0, 0⟩ : Tn), (⟨0, 0⟩ : Us), (⟨0, 0⟩ : Ss)⟩ : Sc), (⟨(⟨0, 0⟩ : Tn), (⟨0, 0⟩ : Us), (⟨0, 0⟩ : Ss)⟩ : Sc), false))
            else ((⟨(⟨0, 0⟩ : Tn), (⟨0, 0⟩ : Us), (⟨0, 0⟩ : Ss)⟩ : Sc), (⟨(⟨0, 0⟩ : Tn), (⟨0, 0⟩ : Us), (⟨0, 0⟩ : Ss)⟩ : Sc), false))
          else ((⟨(⟨0, 0⟩ : Tn), (⟨0, 0⟩ : Us), (⟨0, 0⟩ : Ss)⟩ : Sc), (⟨(⟨0, 0⟩ : Tn), (⟨0, 0⟩ : Us), (⟨0, 0⟩ : Ss)⟩ : Sc), false))
        else if (lockgateref05_learn 10 false d e).2.2 = true then (if (lockgateref05_Norm ((lockgateref05_learn 10 false d e).1)).2 = true then (if (lockgateref05_Norm ((lockgateref05_learn 10 false d e).2.1)).2 = true then (((lockgateref05_Norm ((lockgateref05_learn 10 false d e).1)).1), ((lockgateref05_Norm ((lockgateref05_learn 10 false d e).2.1)).1), true)
            else ((⟨(⟨0, 0⟩ : Tn), (⟨0, 0⟩ : Us), (⟨0, 0⟩ : Ss)⟩ : Sc), (⟨(⟨0, 0⟩ : Tn), (⟨0, 0⟩ : Us), (⟨0, 0⟩ : Ss)⟩ : Sc), false))
          else ((⟨(⟨0, 0⟩ : Tn), (⟨0, 0⟩ : Us), (⟨0, 0⟩ : Ss)⟩ : Sc), (⟨(⟨0, 0⟩ : Tn), (⟨0, 0⟩ : Us), (⟨0, 0⟩ : Ss)⟩ : Sc), false))
        else ((⟨(⟨0, 0⟩ : Tn), (⟨0, 0⟩ : Us), (⟨0, 0⟩ : Ss)⟩ : Sc), (⟨(⟨0, 0⟩ : Tn), (⟨0, 0⟩ : Us), (⟨0, 0⟩ : Ss)⟩ : Sc), false))
      else (d, e, true))
    else (d, e, true))
  else (d, e, true)
def lockgateref05_Branch_4 (b : Bool) (c : Bool) (d : Sc) (e : Sc) : (Sc × Sc × Bool) :=
  if (lockgateref01_Jump 4 b ((lockgateref05_Is d).1) ((lockgateref05_Is e).1)).2 = true then (if (lockgateref05_Is d).2 = true then (if (lockgateref05_Is e).2 = true then (if (((lockgateref01_Jump 4 b ((lockgateref05_Is d).1) ((lockgateref05_Is e).1)).1) == c) = true then (d, e, true)
        else ((⟨(⟨0, 0⟩ : Tn), (⟨0, 0⟩ : Us), (⟨0, 0⟩ : Ss)⟩ : Sc), (⟨(⟨0, 0⟩ : Tn), (⟨0, 0⟩ : Us), (⟨0, 0⟩ : Ss)⟩ : Sc), false))
      else if b = true then (if c = true then (if (lockgateref05_learn 4 (!c) d e).2.2 = true then (if (lockgateref05_Norm ((lockgateref05_learn 4 (!c) d e).1)).2 = true then (if (lockgateref05_Norm ((lockgateref05_learn 4 (!c) d e).2.1)).2 = true then (((lockgateref05_Norm ((lockgateref05_learn 4 (!c) d e).1)).1), ((lockgateref05_Norm ((lockgateref05_learn 4 (!c) d e).2.1)).1), true)
              else ((⟨(⟨0, 0⟩ : Tn), (⟨0, 0⟩ : Us), (⟨0, 0⟩ : Ss)⟩ : Sc), (⟨(⟨0, 0⟩ : Tn), (⟨0, 0⟩ : Us), (⟨0, 0⟩ : Ss)⟩ : Sc), false))
            else ((⟨(⟨0, 0⟩ : Tn), (⟨0, 0⟩ : Us), (⟨0, 0⟩ : Ss)⟩ : Sc), (⟨(⟨0, 0⟩ : Tn), (⟨0, 0⟩ : Us), (⟨0, 0⟩ : Ss)⟩ : Sc), false))
          else ((⟨(⟨0, 0⟩ : Tn), (⟨0, 0⟩ : Us), (⟨0, 0⟩ : Ss)⟩ : Sc), (⟨(⟨0, 0⟩ : Tn), (⟨0, 0⟩ : Us), (⟨0, 0⟩ : Ss)⟩ : Sc), false))
        else if (lockgateref05_learn 0 (!c) d e).2.2 = true then (if (lockgateref05_Norm ((lockgateref05_learn 0 (!c) d e).1)).2 = true then (if (lockgateref05_Norm ((lockgateref05_learn 0 (!c) d e).2.1)).2 = true then (((lockgateref05_Norm ((lockgateref05_learn 0 (!c) d e).1)).1), ((lockgateref05_Norm ((lockgateref05_learn 0 (!c) d e).2.1)).1), true)
            else ((⟨(⟨0, 0⟩ : Tn), (⟨0, 0⟩ : Us), (⟨0, 0⟩ : Ss)⟩ : Sc), (⟨(⟨0, 0⟩ : Tn), (⟨0, 0⟩ : Us), (⟨0, 0⟩ : Ss)⟩ : Sc), false))
          else ((⟨(⟨0, 0⟩ : Tn), (⟨0, 0⟩ : Us), (⟨0, 0⟩ : Ss)⟩ : Sc), (⟨(⟨0, 0⟩ : Tn), (⟨0, 0⟩ : Us), (⟨0, 0⟩ : Ss)⟩ : Sc), false))
        else ((⟨(⟨0, 0⟩ : Tn), (⟨0, 0⟩ : Us), (⟨0, 0⟩ : Ss)⟩ : Sc), (⟨(⟨0, 0⟩ : Tn), (⟨0, 0⟩ : Us), (⟨0, 0⟩ : Ss)⟩ : Sc), false))
      else if (lockgateref05_Within d (lockgateref05_Upto 4)) = true then (if (lockgateref05_Within e (lockgateref05_Upto 4)) = true then (if c = true then (if (lockgateref05_learn 4 (!c) d e).2.2 = true then (if (lockgateref05_Norm ((lockgateref05_learn 4 (!c) d e).1)).2 = true then (if (lockgateref05_Norm ((lockgateref05_learn 4 (!c) d e).2.1)).2 = true then (((lockgateref05_Norm ((lockgateref05_learn 4 (!c) d e).1)).1), ((lockgateref05_Norm ((lockgateref05_learn 4 (!c) d e).2.1)).1), true)
                else ((⟨(⟨0, 0⟩ : Tn), (⟨0, 0⟩ : Us), (⟨0, 0⟩ : Ss)⟩ : Sc), (⟨(⟨0, 0⟩ : Tn), (⟨0, 0⟩ : Us), (⟨0, 0⟩ : Ss)⟩ : Sc), false))
              else ((⟨(⟨0, 0⟩ : Tn), (⟨0, 0⟩ : Us), (⟨0, 0⟩ : Ss)⟩ : Sc), (⟨(⟨0, 0⟩ : Tn), (⟨0, 0⟩ : Us), (⟨0, 0⟩ : Ss)⟩ : Sc), false))
            else ((⟨(⟨0, 0⟩ : Tn), (⟨0, 0⟩ : Us), (⟨0, 0⟩ : Ss)⟩ : Sc), (⟨(⟨0, 0⟩ : Tn), (⟨0, 0⟩ : Us), (⟨0, 0⟩ : Ss)⟩ : Sc), false))
          else if (lockgateref05_learn 0 (!c) d e).2.2 = true then (if (lockgateref05_Norm ((lockgateref05_learn 0 (!c) d e).1)).2 = true then (if (lockgateref05_Norm ((lockgateref05_learn 0 (!c) d e).2.1)).2 = true then (((lockgateref05_Norm ((lockgateref05_learn 0 (!c) d e).1)).1), ((lockgateref05_Norm ((lockgateref05_learn 0 (!c) d e).2.1)).1), true)
              else ((⟨(⟨0, 0⟩ : Tn), (⟨0, 0⟩ : Us), (⟨0, 0⟩ : Ss)⟩ : Sc), (⟨(⟨0, 0⟩ : Tn), (⟨0, 0⟩ : Us), (⟨0, 0⟩ : Ss)⟩ : Sc), false))
            else ((⟨(⟨0, 0⟩ : Tn), (⟨0, 0⟩ : Us), (⟨0, 0⟩ : Ss)⟩ : Sc), (⟨(⟨0, 0⟩ : Tn), (⟨0, 0⟩ : Us), (⟨0, 0⟩ : Ss)⟩ : Sc), false))
          else ((⟨(⟨0, 0⟩ : Tn), (⟨0, 0⟩ : Us), (⟨0, 0⟩ : Ss)⟩ : Sc), (⟨(⟨0, 0⟩ : Tn), (⟨0, 0⟩ : Us), (⟨0, 0⟩ : Ss)⟩ : Sc), false))
        else (d, e, true))
      else (d, e, true))
    else if b = true then (if c = true then (if (lockgateref05_learn 4 (!c) d e).2.2 = true then (if (lockgateref05_Norm ((lockgateref05_learn 4 (!c) d e).1)).2 = true then (if (lockgateref05_Norm ((lockgateref05_learn 4 (!c) d e).2.1)).2 = true then (((lockgateref05_Norm ((lockgateref05_learn 4 (!c) d e).1)).1), ((lockgateref05_Norm ((lockgateref05_learn 4 (!c) d e).2.1)).1), true)
            else ((⟨(⟨0, 0⟩ : Tn), (⟨0, 0⟩ : Us), (⟨0, 0⟩ : Ss)⟩ : Sc), (⟨(⟨0, 0⟩ : Tn), (⟨0, 0⟩ : Us), (⟨0, 0⟩ : Ss)⟩ : Sc), false))
          else ((⟨(⟨0, 0⟩ : Tn), (⟨0, 0⟩ : Us), (⟨0, 0⟩ : Ss)⟩ : Sc), (⟨(⟨0, 0⟩ : Tn), (⟨0, 0⟩ : Us), (⟨0, 0⟩ : Ss)⟩ : Sc), false))
        else ((⟨(⟨0, 0⟩ : Tn), (⟨0, 0⟩ : Us), (⟨0, 0⟩ : Ss)⟩ : Sc), (⟨(⟨0, 0⟩ : Tn), (⟨0, 0⟩ : Us), (⟨0, 0⟩ : Ss)⟩ : Sc), false))
      else if (lockgateref05_learn 0 (!c) d e).2.2 = true then (if (lockgateref05_Norm ((lockgateref05_learn 0 (!c) d e).1)).2 = true then (if (lockgateref05_Norm ((lockgateref05_learn 0 (!c) d e).2.1)).2 = true then (((lockgateref05_Norm ((lockgateref05_learn 0 (!c) d e).1)).1), ((lockgateref05_Norm ((lockgateref05_learn 0 (!c) d e).2.1)).1), true)
          else ((⟨(⟨0, 0⟩ : Tn), (⟨0, 0⟩ : Us), (⟨0, 0⟩ : Ss)⟩ : Sc), (⟨(⟨0, 0⟩ : Tn), (⟨0, 0⟩ : Us), (⟨0, 0⟩ : Ss)⟩ : Sc), false))
        else ((⟨(⟨0, 0⟩ : Tn), (⟨0, 0⟩ : Us), (⟨0, 0⟩ : Ss)⟩ : Sc), (⟨(⟨0, 0⟩ : Tn), (⟨0, 0⟩ : Us), (⟨0, 0⟩ : Ss)⟩ : Sc), false))
      else ((⟨(⟨0, 0⟩ : Tn), (⟨0, 0⟩ : Us), (⟨0, 0⟩ : Ss)⟩ : Sc), (⟨(⟨0, 0⟩ : Tn), (⟨0, 0⟩ : Us), (⟨0, 0⟩ : Ss)⟩ : Sc), false))
    else if (lockgateref05_Within d (lockgateref05_Upto 4)) = true then (if (lockgateref05_Within e (lockgateref05_Upto 4)) = true then (if c = true then (if (lockgateref05_learn 4 (!c) d e).2.2 = true then (if (lockgateref05_Norm ((lockgateref05_learn 4 (!c) d e).1)).2 = true then (if (lockgateref05_Norm ((lockgateref05_learn 4 (!c) d e).2.1)).2 = true then (((lockgateref05_Norm ((lockgateref05_learn 4 (!c) d e).1)).1), ((lockgateref05_Norm ((lockgateref05_learn 4 (!c) d e).2.1)).1), true)
              else ((⟨(⟨0, 0⟩ : Tn), (⟨0, 0⟩ : Us), (⟨0, 0⟩ : Ss)⟩ : Sc), (⟨(⟨0, 0⟩ : Tn), (⟨0, 0⟩ : Us), (⟨0, 0⟩ : Ss)⟩ : Sc), false))
            else ((⟨(⟨0, 0⟩ : Tn), (⟨0, 0⟩ : Us), (⟨0, 0⟩ : Ss)⟩ : Sc), (⟨(⟨0, 0⟩ : Tn), (⟨0, 0⟩ : Us), (⟨0, 0⟩ : Ss)⟩ : Sc), false))
          else ((⟨(⟨0, 0⟩ : Tn), (⟨0, 0⟩ : Us), (⟨0, 0⟩ : Ss)⟩ : Sc), (⟨(⟨0, 0⟩ : Tn), (⟨0, 0⟩ : Us), (⟨0, 0⟩ : Ss)⟩ : Sc), false))
        else if (lockgateref05_learn 0 (!c) d e).2.2 = true then (if (lockgateref05_Norm ((lockgateref05_learn 0 (!c) d e).1)).2 = true then (if (lockgateref05_Norm ((lockgateref05_learn 0 (!c) d e).2.1)).2 = true then (((lockgateref05_Norm ((lockgateref05_learn 0 (!c) d e).1)).1), ((lockgateref05_Norm ((lockgateref05_learn 0 (!c) d e).2.1)).1), true)
            else ((⟨(⟨0, 0⟩ : Tn), (⟨0, 0⟩ : Us), (⟨0, 0⟩ : Ss)⟩ : Sc), (⟨(⟨0, 0⟩ : Tn), (⟨0, 0⟩ : Us), (⟨0, 0⟩ : Ss)⟩ : Sc), false))
          else ((⟨(⟨0, 0⟩ : Tn), (⟨0, 0⟩ : Us), (⟨0, 0⟩ : Ss)⟩ : Sc), (⟨(⟨0, 0⟩ : Tn), (⟨0, 0⟩ : Us), (⟨0, 0⟩ : Ss)⟩ : Sc), false))
        else ((⟨(⟨0, 0⟩ : Tn), (⟨0, 0⟩ : Us), (⟨0, 0⟩ : Ss)⟩ : Sc), (⟨(⟨0, 0⟩ : Tn), (⟨0, 0⟩ : Us), (⟨0, 0⟩ : Ss)⟩ : Sc), false))
      else (d, e, true))
    else (d, e, true))
  else (d, e, true)
def lockgateref05_Branch_5 (b : Bool) (c : Bool) (d : Sc) (e : Sc) : (Sc × Sc × Bool) :=
  if (lockgateref01_Jump 5 b ((lockgateref05_Is d).1) ((lockgateref05_Is e).1)).2 = true then (if (lockgateref05_Is d).2 = true then (if (lockgateref05_Is e).2 = true then (if (((lockgateref01_Jump 5 b ((lockgateref05_Is d).1) ((lockgateref05_Is e).1)).1) == c) = true then (d, e, true)
        else ((⟨(⟨0, 0⟩ : Tn), (⟨0, 0⟩ : Us), (⟨0, 0⟩ : Ss)⟩ : Sc), (⟨(⟨0, 0⟩ : Tn), (⟨0, 0⟩ : Us), (⟨0, 0⟩ : Ss)⟩ : Sc), false))
      else if b = true then (if c = true then (if (lockgateref05_learn 5 false d e).2.2 = true then (if (lockgateref05_Norm ((lockgateref05_learn 5 false d e).1)).2 = true then (if (lockgateref05_Norm ((lockgateref05_learn 5 false d e).2.1)).2 = true then (((lockgateref05_Norm ((lockgateref05_learn 5 false d e).1)).1), ((lockgateref05_Norm ((lockgateref05_learn 5 false d e).2.1)).1), true)
              else ((⟨(⟨0, 0⟩ : Tn), (⟨0, 0⟩ : Us), (⟨0, 0⟩ : Ss)⟩ : Sc), (⟨(⟨0, 0⟩ : Tn), (⟨0, 0⟩ : Us), (⟨0, 0⟩ : Ss)⟩ : Sc), false))
            else ((⟨(⟨0, 0⟩ : Tn), (⟨0, 0⟩ : Us), (⟨0, 0⟩ : Ss)⟩ : Sc), (⟨(⟨0, 0⟩ : Tn), (⟨0, 0⟩ : Us), (⟨0, 0⟩ : Ss)⟩ : Sc), false))
          else ((⟨(⟨0, 0⟩ : Tn), (⟨0, 0⟩ : Us), (⟨0, 0⟩ : Ss)⟩ : Sc), (⟨(⟨0, 0⟩ : Tn), (⟨0, 0⟩ : Us), (⟨0, 0⟩ : Ss)⟩ : Sc), false))
        else if (lockgateref05_learn 1 false d e).2.2 = true then (if (lockgateref05_Norm ((lockgateref05_learn 1 false d e).1)).2 = true then (if (lockgateref05_Norm ((lockgateref05_learn 1 false d e).2.1)).2 = true then (((lockgateref05_Norm ((lockgateref05_learn 1 false d e).1)).1), ((lockgateref05_Norm ((lockgateref05_learn 1 false d e).2.1)).1), true)
            else ((⟨(⟨0, 0⟩ : Tn), (⟨0, 0⟩ : Us), (⟨0, 0⟩ : Ss)⟩ : Sc), (⟨(⟨0, 0⟩ : Tn), (⟨0, 0⟩ : Us), (⟨0, 0⟩ : Ss)⟩ : Sc), false))
          else ((⟨(⟨0, 0⟩ : Tn), (⟨0, 0⟩ : Us), (⟨0, 0⟩ : Ss)⟩ : Sc), (⟨(⟨0, 0⟩ : Tn), (⟨0, 0⟩ : Us), (⟨0, 0⟩ : Ss)⟩ : Sc), false))
        else ((⟨(⟨0, 0⟩ : Tn), (⟨0, 0⟩ : Us), (⟨0, 0⟩ : Ss)⟩ : Sc), (⟨(⟨0, 0⟩ : Tn), (⟨0, 0⟩ : Us), (⟨0, 0⟩ : Ss)⟩ : Sc), false))
      else if (lockgateref05_Within d (lockgateref05_Upto 4)) = true then (if (lockgateref05_Within e (lockgateref05_Upto 4)) = true then (if c = true then (if (lockgateref05_learn 5 false d e).2.2 = true then (if (lockgateref05_Norm ((lockgateref05_learn 5 false d e).1)).2 = true then (if (lockgateref05_Norm ((lockgateref05_learn 5 false d e).2.1)).2 = true then (((lockgateref05_Norm ((lockgateref05_learn 5 false d e).1)).1), ((lockgateref05_Norm ((lockgateref05_learn 5 false d e).2.1)).1), true)
                else ((⟨(⟨0, 0⟩ : Tn), (⟨0, 0⟩ : Us), (⟨0, 0⟩ : Ss)⟩ : Sc), (⟨(⟨0, 0⟩ : Tn), (⟨0, 0⟩ : Us), (⟨0, 0⟩ : Ss)⟩ : Sc), false))
              else ((⟨(⟨0, 0⟩ : Tn), (⟨0, 0⟩ : Us), (⟨0, 0⟩ : Ss)⟩ : Sc), (⟨(⟨0, 0⟩ : Tn), (⟨0, 0⟩ : Us), (⟨0, 0⟩ : Ss)⟩ : Sc), false))
            else ((⟨(⟨0, 0⟩ : Tn), (⟨0, 0⟩ : Us), (⟨0, 0⟩ : Ss)⟩ : Sc), (⟨(⟨0, 0⟩ : Tn), (⟨0, 0⟩ : Us), (⟨0, 0⟩ : Ss)⟩ : Sc), false))
          else if (lockgateref05_learn 1 false d e).2.2 = true then (if (lockgateref05_Norm ((lockgateref05_learn 1 false d e).1)).2 = true then (if (lockgateref05_Norm ((lockgateref05_learn 1 false d e).2.1)).2 = true then (((lockgateref05_Norm ((lockgateref05_learn 1 false d e).1)).1), ((lockgateref05_Norm ((lockgateref05_learn 1 false d e).2.1)).1), true)
              else ((⟨(⟨0, 0⟩ : Tn), (⟨0, 0⟩ : Us), (⟨0, 0⟩ : Ss)⟩ : Sc), (⟨(⟨0, 0⟩ : Tn), (⟨0, 0⟩ : Us), (⟨0, 0⟩ : Ss)⟩ : Sc), false))
            else ((⟨(⟨0, 0⟩ : Tn), (⟨0, 0⟩ : Us), (⟨0, 0⟩ : Ss)⟩ : Sc), (⟨(⟨0, 0⟩ : Tn), (⟨0, 0⟩ : Us), (⟨0, 0⟩ : Ss)⟩ : Sc), false))
          else ((⟨(⟨0, 0⟩ : Tn), (⟨0, 0⟩ : Us), (⟨0, 0⟩ : Ss)⟩ : Sc), (⟨(⟨0, 0⟩ : Tn), (⟨0, 0⟩ : Us), (⟨0, 0⟩ : Ss)⟩ : Sc), false))
        else (d, e, true))
      else (d, e, true))
    else if b = true then (if c = true then (if (lockgateref05_learn 5 false d e).2.2 = true then (if (lockgateref05_Norm ((lockgateref05_learn 5 false d e).1)).2 = true then (if (lockgateref05_Norm ((lockgateref05_learn 5 false d e).2.1)).2 = true then (((lockgateref05_Norm ((lockgateref05_learn 5 false d e).1)).1), ((lockgateref05_Norm ((lockgateref05_learn 5 false d e).2.1)).1), true)
            else ((⟨(⟨0, 0⟩ : Tn), (⟨0, 0⟩ : Us), (⟨0, 0⟩ : Ss)⟩ : Sc), (⟨(⟨0, 0⟩ : Tn), (⟨0, 0⟩ : Us), (⟨0, 0⟩ : Ss)⟩ : Sc), false))
          else ((⟨(⟨0, 0⟩ : Tn), (⟨0, 0⟩ : Us), (⟨0, 0⟩ : Ss)⟩ : Sc), (⟨(⟨0, 0⟩ : Tn), (⟨0, 0⟩ : Us), (⟨0, 0⟩ : Ss)⟩ : Sc), false))
        else ((⟨(⟨0, 0⟩ : Tn), (⟨0, 0⟩ : Us), (⟨0, 0⟩ : Ss)⟩ : Sc), (⟨(⟨0, 0⟩ : Tn), (⟨0, 0⟩ : Us), (⟨0, 0⟩ : Ss)⟩ : Sc), false))
      else if (lockgateref05_learn 1 false d e).2.2 = true then (if (lockgateref05_Norm ((lockgateref05_learn 1 false d e).1)).2 = true then (if (lockgateref05_Norm ((lockgateref05_learn 1 false d e).2.1)).2 = true then (((lockgateref05_Norm ((lockgateref05_learn 1 false d e).1)).1), ((lockgateref05_Norm ((lockgateref05_learn 1 false d e).2.1)).1), true)
          else ((⟨(⟨0, 0⟩ : Tn), (⟨0, 0⟩ : Us), (⟨0, 0⟩ : Ss)⟩ : Sc), (⟨(⟨0, 0⟩ : Tn), (⟨0, 0⟩ : Us), (⟨0, 0⟩ : Ss)⟩ : Sc), false))
        else ((⟨(⟨0, 0⟩ : Tn), (⟨0, 0⟩ : Us), (⟨0, 0⟩ : Ss)⟩ : Sc), (⟨(⟨0, 0⟩ : Tn), (⟨0, 0⟩ : Us), (⟨0, 0⟩ : Ss)⟩ : Sc), false))
      else ((⟨(⟨0, 0⟩ : Tn), (⟨0, 0⟩ : Us), (⟨0, 0⟩ : Ss)⟩ : Sc), (⟨(⟨0, 0⟩ : Tn), (⟨0, 0⟩ : Us), (⟨0, 0⟩ : Ss)⟩ : Sc), false))
    else if (lockgateref05_Within d (lockgateref05_Upto 4)) = true then (if (lockgateref05_Within e (lockgateref05_Upto 4)) = true then (if c = true then (if (lockgateref05_learn 5 false d e).2.2 = true then (if (lockgateref05_Norm ((lockgateref05_learn 5 false d e).1)).2 = true then (if (lockgateref05_Norm ((lockgateref05_learn 5 false d e).2.1)).2 = true then (((lockgateref05_Norm ((lockgateref05_learn 5 false d e).1)).1), ((lockgateref05_Norm ((lockgateref05_learn 5 false d e).2.1)).1), true)
              else ((⟨(⟨0, 0⟩ : Tn), (⟨0, 0⟩ : Us), (⟨0, 0⟩ : Ss)⟩ : Sc), (⟨(⟨0, 0⟩ : Tn), (⟨0, 0⟩ : Us), (⟨0, 0⟩ : Ss)⟩ : Sc), false))
            else ((⟨(⟨0, 0⟩ : Tn), (⟨0, 0⟩ : Us), (⟨0, 0⟩ : Ss)⟩ : Sc), (⟨(⟨0, 0⟩ : Tn), (⟨0, 0⟩ : Us), (⟨0, 0⟩ : Ss)⟩ : Sc), false))
          else ((⟨(⟨0, 0⟩ : Tn), (⟨0, 0⟩ : Us), (⟨0, 0⟩ : Ss)⟩ : Sc), (⟨(⟨0, 0⟩ : Tn), (⟨0, 0⟩ : Us), (⟨0, 0⟩ : Ss)⟩ : Sc), false))
        else if (lockgateref05_learn 1 false d e).2.2 = true then (if (lockgateref05_Norm ((lockgateref05_learn 1 false d e).1)).2 = true then (if (lockgateref05_Norm ((lockgateref05_learn 1 false d e).2.1)).2 = true then (((lockgateref05_Norm ((lockgateref05_learn 1 false d e).1)).1), ((lockgateref05_Norm ((lockgateref05_learn 1 false d e).2.1)).1), true)
            else ((⟨(⟨0, 0⟩ : Tn), (⟨0, 0⟩ : Us), (⟨0, 0⟩ : Ss)⟩ : Sc), (⟨(⟨0, 0⟩ : Tn), (⟨0, 0⟩ : Us), (⟨0, 0⟩ : Ss)⟩ : Sc), false))
          else ((⟨(⟨0, 0⟩ : Tn), (⟨0, 0⟩ : Us), (⟨0, 0⟩ : Ss)⟩ : Sc), (⟨(⟨0, 0⟩ : Tn), (⟨0, 0⟩ : Us), (⟨0, 0⟩ : Ss)⟩ : Sc), false))
        else ((⟨(⟨0, 0⟩ : Tn), (⟨0, 0⟩ : Us), (⟨0, 0⟩ : Ss)⟩ : Sc), (⟨(⟨0, 0⟩ : Tn), (⟨0, 0⟩ : Us), (⟨0, 0⟩ : Ss)⟩ : Sc), false))
      else (d, e, true))
    else (d, e, true))
  else (d, e, true)
def lockgateref05_Branch_6 (b : Bool) (c : Bool) (d : Sc) (e : Sc) : (Sc × Sc × Bool) :=
  if (lockgateref01_Jump 6 b ((lockgateref05_Is d).1) ((lockgateref05_Is e).1)).2 = true then (if (lockgateref05_Is d).2 = true then (if (lockgateref05_Is e).2 = true then (if (((lockgateref01_Jump 6 b ((lockgateref05_Is d).1) ((lockgateref05_Is e).1)).1) == c) = true then (d, e, true)
        else ((⟨(⟨0, 0⟩ : Tn), (⟨0, 0⟩ : Us), (⟨0, 0⟩ : Ss)⟩ : Sc), (⟨(⟨0, 0⟩ : Tn), (⟨0, 0⟩ : Us), (⟨0, 0⟩ : Ss)⟩ : Sc), false))
      else if b = true then (if c = true then (if (lockgateref05_learn 6 false d e).2.2 = true then (if (lockgateref05_Norm ((lockgateref05_learn 6 false d e).1)).2 = true then (if (lockgateref05_Norm ((lockgateref05_learn 6 false d e).2.1)).2 = true then (((lockgateref05_Norm ((lockgateref05_learn 6 false d e).1)).1), ((lockgateref05_Norm ((lockgateref05_learn 6 false d e).2.1)).1), true)
              else ((⟨(⟨0, 0⟩ : Tn), (⟨0, 0⟩ : Us), (⟨0, 0⟩ : Ss)⟩ : Sc), (⟨(⟨0, 0⟩ : Tn), (⟨0, 0⟩ : Us), (⟨0, 0⟩ : Ss)⟩ : Sc), false))
            else ((⟨(⟨0, 0⟩ : Tn), (⟨0, 0⟩ : Us), (⟨0, 0⟩ : Ss)⟩ : Sc), (⟨(⟨0, 0⟩ : Tn), (⟨0, 0⟩ : Us), (⟨0, 0⟩ : Ss)⟩ : Sc), false))
          else ((⟨(⟨0, 0⟩ : Tn), (⟨0, 0⟩ : Us), (⟨0, 0⟩ : Ss)⟩ : Sc), (⟨(⟨0, 0⟩ : Tn), (⟨0, 0⟩ : Us), (⟨0, 0⟩ : Ss)⟩ : Sc), false))
        else if (lockgateref05_learn 13 false d e).2.2 = true then (if (lockgateref05_Norm ((lockgateref05_learn 13 false d e).1)).2 = true then (if (lockgateref05_Norm ((lockgateref05_learn 13 false d e).2.1)).2 = true then (((lockgateref05_Norm ((lockgateref05_learn 13 false d e).1)).1), ((lockgateref05_Norm ((lockgateref05_learn 13 false d e).2.1)).1), true)
            else ((⟨(⟨0, 0⟩ : Tn), (⟨0, 0⟩ : Us), (⟨0, 0⟩ : Ss)⟩ : Sc), (⟨(⟨0, 0⟩ : Tn), (⟨0, 0⟩ : Us), (⟨0, 0⟩ : Ss)⟩ : Sc), false))
          else ((⟨(⟨0, 0⟩ : Tn), (⟨0, 0⟩ : Us), (⟨0, 0⟩ : Ss)⟩ : Sc), (⟨(⟨0, 0⟩ : Tn), (⟨0, 0⟩ : Us), (⟨0, 0⟩ : Ss)⟩ : Sc), false))
        else ((⟨(⟨0, 0⟩ : Tn), (⟨0, 0⟩ : Us), (⟨0, 0⟩ : Ss)⟩ : Sc), (⟨(⟨0, 0⟩ : Tn), (⟨0, 0⟩ : Us), (⟨0, 0⟩ : Ss)⟩ : Sc), false))
      else if (lockgateref05_Within d (lockgateref05_Upto 4)) = true then (if (lockgateref05_Within e (lockgateref05_Upto 4)) = true then (if 2147483648 ≤ d.u.hi then (d, e, true)
          else if 2147483648 ≤ e.u.hi then (d, e, true)
          else if c = true then (if (lockgateref05_learn 6 false d e).2.2 = true then (if (lockgateref05_Norm ((lockgateref05_learn 6 false d e).1)).2 = true then (if (lockgateref05_Norm ((lockgateref05_learn 6 false d e).2.1)).2 = true then (((lockgateref05_Norm ((lockgateref05_learn 6 false d e).1)).1), ((lockgateref05_Norm ((lockgateref05_learn 6 false d e).2.1)).1), true)
                else ((⟨(⟨0, 0⟩ : Tn), (⟨0, 0⟩ : Us), (⟨0, 0⟩ : Ss)⟩ : Sc), (⟨(⟨0, 0⟩ : Tn), (⟨0, 0⟩ : Us), (⟨0, 0⟩ : Ss)⟩ : Sc), false))
              else ((⟨(⟨0, 0⟩ : Tn), (⟨0, 0⟩ : Us), (⟨0, 0⟩ : Ss)⟩ : Sc), (⟨(⟨0, 0⟩ : Tn), (⟨0, 0⟩ : Us), (⟨0, 0⟩ : Ss)⟩ : Sc), false))
            else ((⟨(⟨0, 0⟩ : Tn), (⟨0, 0⟩ : Us), (⟨0, 0⟩ : Ss)⟩ : Sc), (⟨(⟨0, 0⟩ : Tn), (⟨0, 0⟩ : Us), (⟨0, 0⟩ : Ss)⟩ : Sc), false))
          else if (lockgateref05_learn 13 false d e).2.2 = true then (if (lockgateref05_Norm ((lockgateref05_learn 13 false d e).1)).2 = true then (if (lockgateref05_Norm ((lockgateref05_learn 13 false d e).2.1)).2 = true then (((lockgateref05_Norm ((lockgateref05_learn 13 false d e).1)).1), ((lockgateref05_Norm ((lockgateref05_learn 13 false d e).2.1)).1), true)
              else ((⟨(⟨0, 0⟩ : Tn), (⟨0, 0⟩ : Us), (⟨0, 0⟩ : Ss)⟩ : Sc), (⟨(⟨0, 0⟩ : Tn), (⟨0, 0⟩ : Us), (⟨0, 0⟩ : Ss)⟩ : Sc), false))
            else ((⟨(⟨0, 0⟩ : Tn), (⟨0, 0⟩ : Us), (⟨0, 0⟩ : Ss)⟩ : Sc), (⟨(⟨0, 0⟩ : Tn), (⟨0, 0⟩ : Us), (⟨0, 0⟩ : Ss)⟩ : Sc), false))
          else ((⟨(⟨0, 0⟩ : Tn), (⟨0, 0⟩ : Us), (⟨0, 0⟩ : Ss)⟩ : Sc), (⟨(⟨0, 0⟩ : Tn), (⟨0, 0⟩ : Us), (⟨0, 0⟩ : Ss)⟩ : Sc), false))
        else (d, e, true))
      else (d, e, true))
    else if b = true then (if c = true then (if (lockgateref05_learn 6 false d e).2.2 = true then (if (lockgateref05_Norm ((lockgateref05_learn 6 false d e).1)).2 = true then (if (lockgateref05_Norm ((lockgateref05_learn 6 false d e).2.1)).2 = true then (((lockgateref05_Norm ((lockgateref05_learn 6 false d e).1)).1), ((lockgateref05_Norm ((lockgateref05_learn 6 false d e).2.1)).1), true)
            else ((⟨(⟨0, 0⟩ : Tn), (⟨0, 0⟩ : Us), (⟨0, 0⟩ : Ss)⟩ : Sc), (⟨(⟨0, 0⟩ : Tn), (⟨0, 0⟩ : Us), (⟨0, 0⟩ : Ss)⟩ : Sc), false))
          else ((⟨(⟨0, 0⟩ : Tn), (⟨0, 0⟩ : Us), (⟨0, 0⟩ : Ss)⟩ : Sc), (⟨(⟨0, 0⟩ : Tn), (⟨0, 0⟩ : Us), (⟨0, 0⟩ : Ss)⟩ : Sc), false))
        else ((⟨(⟨0, 0⟩ : Tn), (⟨0, 0⟩ : Us), (⟨0, 0⟩ : Ss)⟩ : Sc), (⟨(⟨0, 0⟩ : Tn), (⟨0, 0⟩ : Us), (⟨0, 0⟩ : Ss)⟩ : Sc), false))
      else if (lockgateref05_learn 13 false d e).2.2 = true then (if (lockgateref05_Norm ((lockgateref05_learn 13 false d e).1)).2 = true then (if (lockgateref05_Norm ((lockgateref05_learn 13 false d e).2.1)).2 = true then (((lockgateref05_Norm ((lockgateref05_learn 13 false d e).1)).1), ((lockgateref05_Norm ((lockgateref05_learn 13 false d e).2.1)).1), true)
          else ((⟨(⟨0, 0⟩ : Tn), (⟨0, 0⟩ : Us), (⟨0, 0⟩ : Ss)⟩ : Sc), (⟨(⟨0, 0⟩ : Tn), (⟨0, 0⟩ : Us), (⟨0, 0⟩ : Ss)⟩ : Sc), false))
        else ((⟨(⟨0, 0⟩ : Tn), (⟨0, 0⟩ : Us), (⟨0, 0⟩ : Ss)⟩ : Sc), (⟨(⟨0, 0⟩ : Tn), (⟨0, 0⟩ : Us), (⟨0, 0⟩ : Ss)⟩ : Sc), false))
      else ((⟨(⟨0, 0⟩ : Tn), (⟨0, 0⟩ : Us), (⟨0, 0⟩ : Ss)⟩ : Sc), (⟨(⟨0, 0⟩ : Tn), (⟨0, 0⟩ : Us), (⟨0, 0⟩ : Ss)⟩ : Sc), false))
    else if (lockgateref05_Within d (lockgateref05_Upto 4)) = true then (if (lockgateref05_Within e (lockgateref05_Upto 4)) = true then (if 2147483648 ≤ d.u.hi then (d, e, true)
        else if 2147483648 ≤ e.u.hi then (d, e, true)
        else if c = true then (if (lockgateref05_learn 6 false d e).2.2 = true then (if (lockgateref05_Norm ((lockgateref05_learn 6 false d e).1)).2 = true then (if (lockgateref05_Norm ((lockgateref05_learn 6 false d e).2.1)).2 = true then (((lockgateref05_Norm ((lockgateref05_learn 6 false d e).1)).1), ((lockgateref05_Norm ((lockgateref05_learn 6 false d e).2.1)).1), true)
              else ((⟨(⟨0, 0⟩ : Tn), (⟨0, 0⟩ : Us), (⟨0, 0⟩ : Ss)⟩ : Sc), (⟨(⟨0, 0⟩ : Tn), (⟨0, 0⟩ : Us), (⟨0, 0⟩ : Ss)⟩ : Sc), false))
            else ((⟨(⟨0, 0⟩ : Tn), (⟨0, 0⟩ : Us), (⟨0, 0⟩ : Ss)⟩ : Sc), (⟨(⟨0, 0⟩ : Tn), (⟨0, 0⟩ : Us), (⟨0, 0⟩ : Ss)⟩ : Sc), false))
          else ((⟨(⟨0, 0⟩ : Tn), (⟨0, 0⟩ : Us), (⟨0, 0⟩ : Ss)⟩ : Sc), (⟨(⟨0, 0⟩ : Tn), (⟨0, 0⟩ : Us), (⟨0, 0⟩ : Ss)⟩ : Sc), false))
        else if (lockgateref05_learn 13 false d e).2.2 = true then (if (lockgateref05_Norm ((lockgateref05_learn 13 false d e).1)).2 = true then (if (lockgateref05_Norm ((lockgateref05_learn 13 false d e).2.1)).2 = true then (((lockgateref05_Norm ((lockgateref05_learn 13 false d e).1)).1), ((lockgateref05_Norm ((lockgateref05_learn 13 false d e).2.1)).1), true)
            else ((⟨(⟨0, 0⟩ : Tn), (⟨0, 0⟩ : Us), (⟨0, 0⟩ : Ss)⟩ : Sc), (⟨(⟨0, 0⟩ : Tn), (⟨0, 0⟩ : Us), (⟨0, 0⟩ : Ss)⟩ : Sc), false))
          else ((⟨(⟨0, 0⟩ : Tn), (⟨0, 0⟩ : Us), (⟨0, 0⟩ : Ss)⟩ : Sc), (⟨(⟨0, 0⟩ : Tn), (⟨0, 0⟩ : Us), (⟨0, 0⟩ : Ss)⟩ : Sc), false))
        else ((⟨(⟨0, 0⟩ : Tn), (⟨0, 0⟩ : Us), (⟨0, 0⟩ : Ss)⟩ : Sc), (⟨(⟨0, 0⟩ : Tn), (⟨0, 0⟩ : Us), (⟨0, 0⟩ : Ss)⟩ : Sc), false))
      else (d, e, true))
    else (d, e, true))
  else (d, e, true)
def lockgateref05_Branch_7 (b : Bool) (c : Bool) (d : Sc) (e : Sc) : (Sc × Sc × Bool) :=
  if (lockgateref01_Jump 7 b ((lockgateref05_Is d).1) ((lockgateref05_Is e).1)).2 = true then (if (lockgateref05_Is d).2 = true then (if (lockgateref05_Is e).2 = true then (if (((lockgateref01_Jump 7 b ((lockgateref05_Is d).1) ((lockgateref05_Is e).1)).1) == c) = true then (d, e, true)
        else ((⟨(⟨0, 0⟩ : Tn), (⟨0, 0⟩ : Us), (⟨0, 0⟩ : Ss)⟩ : Sc), (⟨(⟨0, 0⟩ : Tn), (⟨0, 0⟩ : Us), (⟨0, 0⟩ : Ss)⟩ : Sc), false))
      else if b = true then (if c = true then (if (lockgateref05_learn 7 false d e).2.2 = true then (if (lockgateref05_Norm ((lockgateref05_learn 7 false d e).1)).2 = true then (if (lockgateref05_Norm ((lockgateref05_learn 7 false d e).2.1)).2 = true then (((lockgateref05_Norm ((lockgateref05_learn 7 false d e).1)).1), ((lockgateref05_Norm ((lockgateref05_learn 7 false d e).2.1)).1), true)
              else ((⟨(⟨0, 0⟩ : Tn), (⟨0, 0⟩ : Us), (⟨0, 0⟩ : Ss)⟩ : Sc), (⟨(⟨0, 0⟩ : Tn), (⟨0, 0⟩ : Us), (⟨0, 0⟩ : Ss)⟩ : Sc), false))
            else ((⟨(⟨0, 0⟩ : Tn), (⟨0, 0⟩ : Us), (⟨0, 0⟩ : Ss)⟩ : Sc), (⟨(⟨0, 0⟩ : Tn), (⟨0, 0⟩ : Us), (⟨0, 0⟩ : Ss)⟩ : Sc), false))
          else ((⟨(⟨0, 0⟩ : Tn), (⟨0, 0⟩ : Us), (⟨0, 0⟩ : Ss)⟩ : Sc), (⟨(⟨0, 0⟩ : Tn), (⟨0, 0⟩ : Us), (⟨0, 0⟩ : Ss)⟩ : Sc), false))
        else if (lockgateref05_learn 12 false d e).2.2 = true then (if (lockgateref05_Norm ((lockgateref05_learn 12 false d e).1)).2 = true then (if (lockgateref05_Norm ((lockgateref05_learn 12 false d e).2.1)).2 = true then (((lockgateref05_Norm ((lockgateref05_learn 12 false d e).1)).1), ((lockgateref05_Norm ((lockgateref05_learn 12 false d e).2.1)).1), true)
            else ((⟨(⟨0, 0⟩ : Tn), (⟨0, 0⟩ : Us), (⟨0, 0⟩ : Ss)⟩ : Sc), (⟨(⟨0, 0⟩ : Tn), (⟨0, 0⟩ : Us), (⟨0, 0⟩ : Ss)⟩ : Sc), false))
          else ((⟨(⟨0, 0⟩ : Tn), (⟨0, 0⟩ : Us), (⟨0, 0⟩ : Ss)⟩ : Sc), (⟨(⟨0, 0⟩ : Tn), (⟨0, 0⟩ : Us), (⟨0, 0⟩ : Ss)⟩ : Sc), false))
        else ((⟨(⟨0, 0⟩ : Tn), (⟨0, 0⟩ : Us), (⟨0, 0⟩ : Ss)⟩ : Sc), (⟨(⟨0, 0⟩ : Tn), (⟨0, 0⟩ : Us), (⟨0, 0⟩ : Ss)⟩ : Sc), false))
      else if (lockgateref05_Within d (lockgateref05_Upto 4)) = true then (if (lockgateref05_Within e (lockgateref05_Upto 4)) = true then (if 2147483648 ≤ d.u.hi then (d, e, true)
          else if 2147483648 ≤ e.u.hi then (d, e, true)
          else if c = true then (if (lockgateref05_learn 7 false d e).2.2 = true then (if (lockgateref05_Norm ((lockgateref05_learn 7 false d e).1)).2 = true then (if (lockgateref05_Norm ((lockgateref05_learn 7 false d e).2.1)).2 = true then (((lockgateref05_Norm ((lockgateref05_learn 7 false d e).1)).1), ((lockgateref05_Norm ((lockgateref05_learn 7 false d e).2.1)).1), true)
                else ((⟨(⟨0, 0⟩ : Tn), (⟨0, 0⟩ : Us), (⟨0, 0⟩ : Ss)⟩ : Sc), (⟨(⟨0, 0⟩ : Tn), (⟨0, 0⟩ : Us), (⟨0, 0⟩ : Ss)⟩ : Sc), false))
              else ((⟨(⟨0, 0⟩ : Tn), (⟨0, 0⟩ : Us), (⟨0, 0⟩ : Ss)⟩ : Sc), (⟨(⟨0, 0⟩ : Tn), (⟨0, 0⟩ : Us), (⟨0, 0⟩ : Ss)⟩ : Sc), false))
            else ((⟨(⟨0, 0⟩ : Tn), (⟨0, 0⟩ : Us), (⟨0, 0⟩ : Ss)⟩ : Sc), (⟨(⟨0, 0⟩ : Tn), (⟨0, 0⟩ : Us), (⟨0, 0⟩ : Ss)⟩ : Sc), false))
          else if (lockgateref05_learn 12 false d e).2.2 = true then (if (lockgateref05_Norm ((lockgateref05_learn 12 false d e).1)).2 = true then (if (lockgateref05_Norm ((lockgateref05_learn 12 false d e).2.1)).2 = true then (((lockgateref05_Norm ((lockgateref05_learn 12 false d e).1)).1), ((lockgateref05_Norm ((lockgateref05_learn 12 false d e).2.1)).1), true)
              else ((⟨(⟨0, 0⟩ : Tn), (⟨0, 0⟩ : Us), (⟨0, 0⟩ : Ss)⟩ : Sc), (⟨(⟨0, 0⟩ : Tn), (⟨0, 0⟩ : Us), (⟨0, 0⟩ : Ss)⟩ : Sc), false))
            else ((⟨(⟨0, 0⟩ : Tn), (⟨0, 0⟩ : Us), (⟨0, 0⟩ : Ss)⟩ : Sc), (⟨(⟨0, 0⟩ : Tn), (⟨0, 0⟩ : Us), (⟨0, 0⟩ : Ss)⟩ : Sc), false))
          else ((⟨(⟨0, 0⟩ : Tn), (⟨0, 0⟩ : Us), (⟨0, 0⟩ : Ss)⟩ : Sc), (⟨(⟨0, 0⟩ : Tn), (⟨0, 0⟩ : Us), (⟨0, 0⟩ : Ss)⟩ : Sc), false))
        else (d, e, true))
      else (d, e, true))
    else if b = true then (if c = true then (if (lockgateref05_learn 7 false d e).2.2 = true then (if (lockgateref05_Norm ((lockgateref05_learn 7 false d e).1)).2 = true then (if (lockgateref05_Norm ((lockgateref05_learn 7 false d e).2.1)).2 = true then (((lockgateref05_Norm ((lockgateref05_learn 7 false d e).1)).1), ((lockgateref05_Norm ((lockgateref05_learn 7 false d e).2.1)).1), true)
            else ((⟨(⟨0, 0⟩ : Tn), (⟨0, 0⟩ : Us), (⟨0, 0⟩ : Ss)⟩ : Sc), (⟨(⟨0, 0⟩ : Tn), (⟨0, 0⟩ : Us), (⟨0, 0⟩ : Ss)⟩ : Sc), false))
          else ((⟨(⟨0, 0⟩ : Tn), (⟨0, 0⟩ : Us), (⟨0, 0⟩ : Ss)⟩ : Sc), (⟨(⟨0, 0⟩ : Tn), (⟨0, 0⟩ : Us), (⟨0, 0⟩ : Ss)⟩ : Sc), false))
        else ((⟨(⟨0, 0⟩ : Tn), (⟨0, 0⟩ : Us), (⟨0, 0⟩ : Ss)⟩ : Sc), (⟨(⟨0, 0⟩ : Tn), (⟨0, 0⟩ : Us), (⟨0, 0⟩ : Ss)⟩ : Sc), false))
      else if (lockgateref05_learn 12 false d e).2.2 = true then (if (lockgateref05_Norm ((lockgateref05_learn 12 false d e).1)).2 = true then (if (lockgateref05_Norm ((lockgateref05_learn 12 false d e).2.1)).2 = true then (((lockgateref05_Norm ((lockgateref05_learn 12 false d e).1)).1), ((lockgateref05_Norm ((lockgateref05_learn 12 false d e).2.1)).1), true)
          else ((⟨(⟨0, 0⟩ : Tn), (⟨0, 0⟩ : Us), (⟨0, 0⟩ : Ss)⟩ : Sc), (⟨(⟨0, 0⟩ : Tn), (⟨0, 0⟩ : Us), (⟨0, 0⟩ : Ss)⟩ : Sc), false))
        else ((⟨(⟨0, 0⟩ : Tn), (⟨0, 0⟩ : Us), (⟨0, 0⟩ : Ss)⟩ : Sc), (⟨(⟨0, 0⟩ : Tn), (⟨0, 0⟩ : Us), (⟨0, 0⟩ : Ss)⟩ : Sc), false))
      else ((⟨(⟨0, 0⟩ : Tn), (⟨0, 0⟩ : Us), (⟨0, 0⟩ : Ss)⟩ : Sc), (⟨(⟨0, 0⟩ : Tn), (⟨0, 0⟩ : Us), (⟨0, 0⟩ : Ss)⟩ : Sc), false))
    else if (lockgateref05_Within d (lockgateref05_Upto 4)) = true then (if (lockgateref05_Within e (lockgateref05_Upto 4)) = true then (if 2147483648 ≤ d.u.hi then (d, e, true)
        else if 2147483648 ≤ e.u.hi then (d, e, true)
        else if c = true then (if (lockgateref05_learn 7 false d e).2.2 = true then (if (lockgateref05_Norm ((lockgateref05_learn 7 false d e).1)).2 = true then (if (lockgateref05_Norm ((lockgateref05_learn 7 false d e).2.1)).2 = true then (((lockgateref05_Norm ((lockgateref05_learn 7 false d e).1)).1), ((lockgateref05_Norm ((lockgateref05_learn 7 false d e).2.1)).1), true)
              else ((⟨(⟨0, 0⟩ : Tn), (⟨0, 0⟩ : Us), (⟨0, 0⟩ : Ss)⟩ : Sc), (⟨(⟨0, 0⟩ : Tn), (⟨0, 0⟩ : Us), (⟨0, 0⟩ : Ss)⟩ : Sc), false))
            else ((⟨(⟨0, 0⟩ : Tn), (⟨0, 0⟩ : Us), (⟨0, 0⟩ : Ss)⟩ : Sc), (⟨(⟨0, 0⟩ : Tn), (⟨0, 0⟩ : Us), (⟨0, 0⟩ : Ss)⟩ : Sc), false))
          else ((⟨(⟨0, 0⟩ : Tn), (⟨0, 0⟩ : Us), (⟨0, 0⟩ : Ss)⟩ : Sc), (⟨(⟨0, 0⟩ : Tn), (⟨0, 0⟩ : Us), (⟨0, 0⟩ : Ss)⟩ : Sc), false))
        else if (lockgateref05_learn 12 false d e).2.2 = true then (if (lockgateref05_Norm ((lockgateref05_learn 12 false d e).1)).2 = true then (if (lockgateref05_Norm ((lockgateref05_learn 12 false d e).2.1)).2 = true then (((lockgateref05_Norm ((lockgateref05_learn 12 false d e).1)).1), ((lockgateref05_Norm ((lockgateref05_learn 12 false d e).2.1)).1), true)
            else ((⟨(⟨0, 0⟩ : Tn), (⟨0, 0⟩ : Us), (⟨0, 0⟩ : Ss)⟩ : Sc), (⟨(⟨0, 0⟩ : Tn), (⟨0, 0⟩ : Us), (⟨0, 0⟩ : Ss)⟩ : Sc), false))
          else ((⟨(⟨0, 0⟩ : Tn), (⟨0, 0⟩ : Us), (⟨0, 0⟩ : Ss)⟩ : Sc), (⟨(⟨0, 0⟩ : Tn), (⟨0, 0⟩ : Us), (⟨0, 0⟩ : Ss)⟩ : Sc), false))
        else ((⟨(⟨0, 0⟩ : Tn), (⟨0, 0⟩ : Us), (⟨0, 0⟩ : Ss)⟩ : Sc), (⟨(⟨0, 0⟩ : Tn), (⟨0, 0⟩ : Us), (⟨0, 0⟩ : Ss)⟩ : Sc), false))
      else (d, e, true))
    else (d, e, true))
  else (d, e, true)
def lockgateref05_Branch_10 (b : Bool) (c : Bool) (d : Sc) (e : Sc) : (Sc × Sc × Bool) :=
  if (lockgateref01_Jump 10 b ((lockgateref05_Is d).1) ((lockgateref05_Is e).1)).2 = true then (if (lockgateref05_Is d).2 = true then (if (lockgateref05_Is e).2 = true then (if (((lockgateref01_Jump 10 b ((lockgateref05_Is d).1) ((lockgateref05_Is e).1)).1) == c) = true then (d, e, true)
        else ((⟨(⟨0, 0⟩ : Tn), (⟨0, 0⟩ : Us), (⟨0, 0⟩ : Ss)⟩ : Sc), (⟨(⟨0, 0⟩ : Tn), (⟨0, 0⟩ : Us), (⟨0, 0⟩ : Ss)⟩ : Sc), false))
      else if b = true then (if c = true then (if (lockgateref05_learn 10 false d e).2.2 = true then (if (lockgateref05_Norm ((lockgateref05_learn 10 false d e).1)).2 = true then (if (lockgateref05_Norm ((lockgateref05_learn 10 false d e).2.1)).2 = true then (((lockgateref05_Norm ((lockgateref05_learn 10 false d e).1)).1), ((lockgateref05_Norm ((lockgateref05_learn 10 false d e).2.1)).1), true)
              else ((⟨(⟨0, 0⟩ : Tn), (⟨0, 0⟩ : Us), (⟨0, 0⟩ : Ss)⟩ : Sc), (⟨(⟨0, 0⟩ : Tn), (⟨0, 0⟩ : Us), (⟨0, 0⟩ : Ss)⟩ : Sc), false))
            else ((⟨(⟨0, 0⟩ : Tn), (⟨0, 0⟩ : Us), (⟨0, 0⟩ : Ss)⟩ : Sc), (⟨(⟨0, 0⟩ : Tn), (⟨0, 0⟩ : Us), (⟨0, 0⟩ : Ss)⟩ : Sc), false))
          else ((⟨(⟨0, 0⟩ : Tn), (⟨0, 0⟩ : Us), (⟨0, 0⟩ : Ss)⟩ : Sc), (⟨(⟨0, 0⟩ : Tn), (⟨0, 0⟩ : Us), (⟨0, 0⟩ : Ss)⟩ : Sc), false))
        else if (lockgateref05_learn 3 false d e).2.2 = true then (if (lockgateref05_Norm ((lockgateref05_learn 3 false d e).1)).2 = true then (if (lockgateref05_Norm ((lockgateref05_learn 3 false d e).2.1)).2 = true then (((lockgateref05_Norm ((lockgateref05_learn 3 false d e).1)).1), ((lockgateref05_Norm ((lockgateref05_learn 3 false d e).2.1)).1), true)
            else ((⟨(⟨0, 0⟩ : Tn), (⟨0, 0⟩ : Us), (⟨0, 0⟩ : Ss)⟩ : Sc), (⟨(⟨0, 0⟩ : Tn), (⟨0, 0⟩ : Us), (⟨0, 0⟩ : Ss)⟩ : Sc), false))
          else ((⟨(⟨0, 0⟩ : Tn), (⟨0, 0⟩ : Us), (⟨0, 0⟩ : Ss)⟩ : Sc), (⟨(⟨0, 0⟩ : Tn), (⟨0, 0⟩ : Us), (⟨0, 0⟩ : Ss)⟩ : Sc), false))
        else ((⟨(⟨0, 0⟩ : Tn), (⟨0, 0⟩ : Us), (⟨0, 0⟩ : Ss)⟩ : Sc), (⟨(⟨0, 0⟩ : Tn), (⟨0, 0⟩ : Us), (⟨0, 0⟩ : Ss)⟩ : Sc), false))
      else if (lockgateref05_Within d (lockgateref05_Upto 4)) = true then (if (lockgateref05_Within e (lockgateref05_Upto 4)) = true then (if c = true then (if (lockgateref05_learn 10 false d e).2.2 = true then (if (lockgateref05_Norm ((lockgateref05_learn 10 false d e).1)).2 = true then (if (lockgateref05_Norm ((lockgateref05_learn 10 false d e).2.1)).2 = true then (((lockgateref05_Norm ((lockgateref05_learn 10 false d e).1)).1), ((lockgateref05_Norm ((lockgateref05_learn 10 false d e).2.1)).1), true)
                else ((⟨(⟨0, 0⟩ : Tn), (⟨0, 0⟩ : Us), (⟨0, 0⟩ : Ss)⟩ : Sc), (⟨(⟨0, 0⟩ : Tn), (⟨0, 0⟩ : Us), (⟨0, 0⟩ : Ss)⟩ : Sc), false))
              else ((⟨(⟨0, 0⟩ : Tn), (⟨0, 0⟩ : Us), (⟨0, 0⟩ : Ss)⟩ : Sc), (⟨(⟨0, 0⟩ : Tn), (⟨0, 0⟩ : Us), (⟨0, 0⟩ : Ss)⟩ : Sc), false))
            else ((⟨(⟨0, 0⟩ : Tn), (⟨0, 0⟩ : Us), (⟨0, 0⟩ : Ss)⟩ : Sc), (⟨(⟨0, 0⟩ : Tn), (⟨0, 0⟩ : Us), (⟨0, 0⟩ : Ss)⟩ : Sc), false))
          else if (lockgateref05_learn 3 false d e).2.2 = true then (if (lockgateref05_Norm ((lockgateref05_learn 3 false d e).1)).2 = true then (if (lockgateref05_Norm ((lockgateref05_learn 3 false d e).2.1)).2 = true then (((lockgateref05_Norm ((lockgateref05_learn 3 false d e).1)).1), ((lockgateref05_Norm ((lockgateref05_learn 3 false d e).2.1)).1), true)
              else ((⟨(⟨0, 0⟩ : Tn), (⟨0, 0⟩ : Us), (⟨0, 0⟩ : Ss)⟩ : Sc), (⟨(⟨0, 0⟩ : Tn), (⟨0, 0⟩ : Us), (⟨0, 0⟩ : Ss)⟩ : Sc), false))
            else ((⟨(⟨0, 0⟩ : Tn), (⟨0, 0⟩ : Us), (⟨0, 0⟩ : Ss)⟩ : Sc), (⟨(⟨0, 0⟩ : Tn), (⟨0, 0⟩ : Us), (⟨0, 0⟩ : Ss)⟩ : Sc), false))
          else ((⟨(⟨0, 0⟩ : Tn), (⟨0, 0⟩ : Us), (⟨0, 0⟩ : Ss)⟩ : Sc), (⟨(⟨0, 0⟩ : Tn), (⟨0, 0⟩ : Us), (⟨0, 0⟩ : Ss)⟩ : Sc), false))
        else (d, e, true))
      else (d, e, true))
    else if b = true then (if c = true then (if (lockgateref05_learn 10 false d e).2.2 = true then (if (lockgateref05_Norm ((lockgateref05_learn 10 false d e).1)).2 = true then (if (lockgateref05_Norm ((lockgateref05_learn 10 false d e).2.1)).2 = true then (((lockgateref05_Norm ((lockgateref05_learn 10 false d e).1)).1), ((lockgateref05_Norm ((lockgateref05_learn 10 false d e).2.1)).1), true)
            else ((⟨(⟨0, 0⟩ : Tn), (⟨0, 0⟩ : Us), (⟨0, 0⟩ : Ss)⟩ : Sc), (⟨(⟨0, 0⟩ : Tn), (⟨0, 0⟩ : Us), (⟨0, 0⟩ : Ss)⟩ : Sc), false))
          else ((⟨(⟨0, 0⟩ : Tn), (⟨0, 0⟩ : Us), (⟨0, 0⟩ : Ss)⟩ : Sc), (⟨(⟨0, 0⟩ : Tn), (⟨0, 0⟩ : Us), (⟨0, 0⟩ : Ss)⟩ : Sc), false))
        else ((⟨(⟨0, 0⟩ : Tn), (⟨0, 0⟩ : Us), (⟨0, 0⟩ : Ss)⟩ : Sc), (⟨(⟨0, 0⟩ : Tn), (⟨0, 0⟩ : Us), (⟨0, 0⟩ : Ss)⟩ : Sc), false))
      else if (lockgateref05_learn 3 false d e).2.2 = true then (if (lockgateref05_Norm ((lockgateref05_learn 3 false d e).1)).2 = true then (if (lockgateref05_Norm ((lockgateref05_learn 3 false d e).2.1)).2 = true then (((lockgateref05_Norm ((lockgateref05_learn 3 false d e).1)).1), ((lockgateref05_Norm ((lockgateref05_learn 3 false d e).2.1)).1), true)
          else ((⟨(⟨0, 0⟩ : Tn), (⟨0, 0⟩ : Us), (⟨0, 0⟩ : Ss)⟩ : Sc), (⟨(⟨0, 0⟩ : Tn), (⟨0, 0⟩ : Us), (⟨0, 0⟩ : Ss)⟩ : Sc), false))
        else ((⟨(⟨0, 0⟩ : Tn), (⟨0, 0⟩ : Us), (⟨0, 0⟩ : Ss)⟩ : Sc), (⟨(⟨0, 0⟩ : Tn), (⟨0, 0⟩ : Us), (⟨0, 0⟩ : Ss)⟩ : Sc), false))
      else ((⟨(⟨0, 0⟩ : Tn), (⟨0, 0⟩ : Us), (⟨0, 0⟩ : Ss)⟩ : Sc), (⟨(⟨0, 0⟩ : Tn), (⟨0, 0⟩ : Us), (⟨0, 0⟩ : Ss)⟩ : Sc), false))
    else if (lockgateref05_Within d (lockgateref05_Upto 4)) = true then (if (lockgateref05_Within e (lockgateref05_Upto 4)) = true then (if c = true then (if (lockgateref05_learn 10 false d e).2.2 = true then (if (lockgateref05_Norm ((lockgateref05_learn 10 false d e).1)).2 = true then (if (lockgateref05_Norm ((lockgateref05_learn 10 false d e).2.1)).2 = true then (((lockgateref05_Norm ((lockgateref05_learn 10 false d e).1)).1), ((lockgateref05_Norm ((lockgateref05_learn 10 false d e).2.1)).1), true)
              else ((⟨(⟨0, 0⟩ : Tn), (⟨0, 0⟩ : Us), (⟨0, 0⟩ : Ss)⟩ : Sc), (⟨(⟨0, 0⟩ : Tn), (⟨0, 0⟩ : Us), (⟨0, 0⟩ : Ss)⟩ : Sc), false))
            else ((⟨(⟨0, 0⟩ : Tn), (⟨0, 0⟩ : Us), (⟨0, 0⟩ : Ss)⟩ : Sc), (⟨(⟨0, 0⟩ : Tn), (⟨0, 0⟩ : Us), (⟨0, 0⟩ : Ss)⟩ : Sc), false))
          else ((⟨(⟨0, 0⟩ : Tn), (⟨0, 0⟩ : Us), (⟨0, 0⟩ : Ss)⟩ : Sc), (⟨(⟨0, 0⟩ : Tn), (⟨0, 0⟩ : Us), (⟨0, 0⟩ : Ss)⟩ : Sc), false))
        else if (lockgateref05_learn 3 false d e).2.2 = true then (if (lockgateref05_Norm ((lockgateref05_learn 3 false d e).1)).2 = true then (if (lockgateref05_Norm ((lockgateref05_learn 3 false d e).2.1)).2 = true then (((lockgateref05_Norm ((lockgateref05_learn 3 false d e).1)).1), ((lockgateref05_Norm ((lockgateref05_learn 3 false d e).2.1)).1), true)
            else ((⟨(⟨0, 0⟩ : Tn), (⟨0, 0⟩ : Us), (⟨0, 0⟩ : Ss)⟩ : Sc), (⟨(⟨0, 0⟩ : Tn), (⟨0, 0⟩ : Us), (⟨0, 0⟩ : Ss)⟩ : Sc), false))
          else ((⟨(⟨0, 0⟩ : Tn), (⟨0, 0⟩ : Us), (⟨0, 0⟩ : Ss)⟩ : Sc), (⟨(⟨0, 0⟩ : Tn), (⟨0, 0⟩ : Us), (⟨0, 0⟩ : Ss)⟩ : Sc), false))
        else ((⟨(⟨0, 0⟩ : Tn), (⟨0, 0⟩ : Us), (⟨0, 0⟩ : Ss)⟩ : Sc), (⟨(⟨0, 0⟩ : Tn), (⟨0, 0⟩ : Us), (⟨0, 0⟩ : Ss)⟩ : Sc), false))
      else (d, e, true))
    else (d, e, true))
  else (d, e, true)
def lockgateref05_Branch_11 (b : Bool) (c : Bool) (d : Sc) (e : Sc) : (Sc × Sc × Bool) :=
  if (lockgateref01_Jump 11 b ((lockgateref05_Is d).1) ((lockgateref05_Is e).1)).2 = true then (if (lockgateref05_Is d).2 = true then (if (lockgateref05_Is e).2 = true then (if (((lockgateref01_Jump 11 b ((lockgateref05_Is d).1) ((lockgateref05_Is e).1)).1) == c) = true then (d, e, true)
        else ((⟨(⟨0, 0⟩ : Tn), (⟨0, 0⟩ : Us), (⟨0, 0⟩ : Ss)⟩ : Sc), (⟨(⟨0, 0⟩ : Tn), (⟨0, 0⟩ : Us), (⟨0, 0⟩ : Ss)⟩ : Sc), false))
      else if b = true then (if c = true then (if (lockgateref05_learn 11 false d e).2.2 = true then (if (lockgateref05_Norm ((lockgateref05_learn 11 false d e).1)).2 = true then (if (lockgateref05_Norm ((lockgateref05_learn 11 false d e).2.1)).2 = true then (((lockgateref05_Norm ((lockgateref05_learn 11 false d e).1)).1), ((lockgateref05_Norm ((lockgateref05_learn 11 false d e).2.1)).1), true)
              else ((⟨(⟨0, 0⟩ : Tn), (⟨0, 0⟩ : Us), (⟨0, 0⟩ : Ss)⟩ : Sc), (⟨(⟨0, 0⟩ : Tn), (⟨0, 0⟩ : Us), (⟨0, 0⟩ : Ss)⟩ : Sc), false))
            else ((⟨(⟨0, 0⟩ : Tn), (⟨0, 0⟩ : Us), (⟨0, 0⟩ : Ss)⟩ : Sc), (⟨(⟨0, 0⟩ : Tn), (⟨0, 0⟩ : Us), (⟨0, 0⟩ : Ss)⟩ : Sc), false))
          else ((⟨(⟨0, 0⟩ : Tn), (⟨0, 0⟩ : Us), (⟨0, 0⟩ : Ss)⟩ : Sc), (⟨(⟨0, 0⟩ : Tn), (⟨0, 0⟩ : Us), (⟨0, 0⟩ : Ss)⟩ : Sc), false))
        else if (lockgateref05_learn 2 false d e).2.2 = true then (if (lockgateref05_Norm ((lockgateref05_learn 2 false d e).1)).2 = true then (if (lockgateref05_Norm ((lockgateref05_learn 2 false d e).2.1)).2 = true then (((lockgateref05_Norm ((lockgateref05_learn 2 false d e).1)).1), ((lockgateref05_Norm ((lockgateref05_learn 2 false d e).2.1)).1), true)
            else ((⟨(⟨0, 0⟩ : Tn), (⟨0, 0⟩ : Us), (⟨0, 0⟩ : Ss)⟩ : Sc), (⟨(⟨0, 0⟩ : Tn), (⟨0, 0⟩ : Us), (⟨0, 0⟩ : Ss)⟩ : Sc), false))
          else ((⟨(⟨0, 0⟩ : Tn), (⟨0, 0⟩ : Us), (⟨0, 0⟩ : Ss)⟩ : Sc), (⟨(⟨0, 0⟩ : Tn), (⟨0, 0⟩ : Us), (⟨0, 0⟩ : Ss)⟩ : Sc), false))
        else ((⟨(⟨0, 0⟩ : Tn), (⟨0, 0⟩ : Us), (⟨0, 0⟩ : Ss)⟩ : Sc), (⟨(⟨0, 0⟩ : Tn), (⟨0, 0⟩ : Us), (⟨0, 0⟩ : Ss)⟩ : Sc), false))
      else if (lockgateref05_Within d (lockgateref05_Upto 4)) = true then (if (lockgateref05_Within e (lockgateref05_Upto 4)) = true then (if c = true then (if (lockgateref05_learn 11 false d e).2.2 = true then (if (lockgateref05_Norm ((lockgateref05_learn 11 false d e).1)).2 = true then (if (lockgateref05_Norm ((lockgateref05_learn 11 false d e).2.1)).2 = true then (((lockgateref05_Norm ((lockgateref05_learn 11 false d e).1)).1), ((lockgateref05_Norm ((lockgateref05_learn 11 false d e).2.1)).1), true)
                else ((⟨(⟨0, 0⟩ : Tn), (⟨0, 0⟩ : Us), (⟨0, 0⟩ : Ss)⟩ : Sc), (⟨(⟨0, 0⟩ : Tn), (⟨0, 0⟩ : Us), (⟨0, 0⟩ : Ss)⟩ : Sc), false))
              else ((⟨(⟨0, 0⟩ : Tn), (⟨0, 0⟩ : Us), (⟨0, 0⟩ : Ss)⟩ : Sc), (⟨(⟨0, 0⟩ : Tn), (⟨0, 0⟩ : Us), (⟨0, 0⟩ : Ss)⟩ : Sc), false))
            else ((⟨(⟨0, 0⟩ : Tn), (⟨0, 0⟩ : Us), (⟨0, 0⟩ : Ss)⟩ : Sc), (⟨(⟨0, 0⟩ : Tn), (⟨0, 0⟩ : Us), (⟨0, 0⟩ : Ss)⟩ : Sc), false))
          else if (lockgateref05_learn 2 false d e).2.2 = true then (if (lockgateref05_Norm ((lockgateref05_learn 2 false d e).1)).2 = true then (if (lockgateref05_Norm ((lockgateref05_learn 2 false d e).2.1)).2 = true then (((lockgateref05_Norm ((lockgateref05_learn 2 false d e).1)).1), ((lockgateref05_Norm ((lockgateref05_learn 2 false d e).2.1)).1), true)
              else ((⟨(⟨0, 0⟩ : Tn), (⟨0, 0⟩ : Us), (⟨0, 0⟩ : Ss)⟩ : Sc), (⟨(⟨0, 0⟩ : Tn), (⟨0, 0⟩ : Us), (⟨0, 0⟩ : Ss)⟩ : Sc), false))
            else ((⟨(⟨0, 0⟩ : Tn), (⟨0, 0⟩ : Us), (⟨0, 0⟩ : Ss)⟩ : Sc), (⟨(⟨0, 0⟩ : Tn), (⟨0, 0⟩ : Us), (⟨0, 0⟩ : Ss)⟩ : Sc), false))
          else ((⟨(⟨0, 0⟩ : Tn), (⟨0, 0⟩ : Us), (⟨0, 0⟩ : Ss)⟩ : Sc), (⟨(⟨0, 0⟩ : Tn), (⟨0, 0⟩ : Us), (⟨0, 0⟩ : Ss)⟩ : Sc), false))
        else (d, e, true))
      else (d, e, true))
    else if b = true then (if c = true then (if (lockgateref05_learn 11 false d e).2.2 = true then (if (lockgateref05_Norm ((lockgateref05_learn 11 false d e).1)).2 = true then (if (lockgateref05_Norm ((lockgateref05_learn 11 false d e).2.1)).2 = true then (((lockgateref05_Norm ((lockgateref05_learn 11 false d e).1)).1), ((lockgateref05_Norm ((lockgateref05_learn 11 false d e).2.1)).1), true)
            else ((⟨(⟨0, 0⟩ : Tn), (⟨0, 0⟩ : Us), (⟨0, 0⟩ : Ss)⟩ : Sc), (⟨(⟨0, 0⟩ : Tn), (⟨0, 0⟩ : Us), (⟨0, 0⟩ : Ss)⟩ : Sc), false))
          else ((⟨(⟨0, 0⟩ : Tn), (⟨0, 0⟩ : Us), (⟨0, 0⟩ : Ss)⟩ : Sc), (⟨(⟨0, 0⟩ : Tn), (⟨0, 0⟩ : Us), (⟨0, 0⟩ : Ss)⟩ : Sc), false))
        else ((⟨(⟨0, 0⟩ : Tn), (⟨0, 0⟩ : Us), (⟨0, 0⟩ : Ss)⟩ : Sc), (⟨(⟨0, 0⟩ : Tn), (⟨0, 0⟩ : Us), (⟨0, 0⟩ : Ss)⟩ : Sc), false))
      else if (lockgateref05_learn 2 false d e).2.2 = true then (if (lockgateref05_Norm ((lockgateref05_learn 2 false d e).1)).2 = true then (if (lockgateref05_Norm ((lockgateref05_learn 2 false d e).2.1)).2 = true then (((lockgateref05_Norm ((lockgateref05_learn 2 false d e).1)).1), ((lockgateref05_Norm ((lockgateref05_learn 2 false d e).2.1)).1), true)
          else ((⟨(⟨0, 0⟩ : Tn), (⟨0, 0⟩ : Us), (⟨0, 0⟩ : Ss)⟩ : Sc), (⟨(⟨0, 0⟩ : Tn), (⟨0, 0⟩ : Us), (⟨0, 0⟩ : Ss)⟩ : Sc), false))
        else ((⟨(⟨0, 0⟩ : Tn), (⟨0, 0⟩ : Us), (⟨0, 0⟩ : Ss)⟩ : Sc), (⟨(⟨0, 0⟩ : Tn), (⟨0, 0⟩ : Us), (⟨0, 0⟩ : Ss)⟩ : Sc), false))
      else ((⟨(⟨0, 0⟩ : Tn), (⟨0, 0⟩ : Us), (⟨0, 0⟩ : Ss)⟩ : Sc), (⟨(⟨0, 0⟩ : Tn), (⟨0, 0⟩ : Us), (⟨0, 0⟩ : Ss)⟩ : Sc), false))
    else if (lockgateref05_Within d (lockgateref05_Upto 4)) = true then (if (lockgateref05_Within e (lockgateref05_Upto 4)) = true then (if c = true then (if (lockgateref05_learn 11 false d e).2.2 = true then (if (lockgateref05_Norm ((lockgateref05_learn 11 false d e).1)).2 = true then (if (lockgateref05_Norm ((lockgateref05_learn 11 false d e).2.1)).2 = true then (((lockgateref05_Norm ((lockgateref05_learn 11 false d e).1)).1), ((lockgateref05_Norm ((lockgateref05_learn 11 false d e).2.1)).1), true)
              else ((⟨(⟨0, 0⟩ : Tn), (⟨0, 0⟩ : Us), (⟨0, 0⟩ : Ss)⟩ : Sc), (⟨(⟨0, 0⟩ : Tn), (⟨0, 0⟩ : Us), (⟨0, 0⟩ : Ss)⟩ : Sc), false))
            else ((⟨(⟨0, 0⟩ : Tn), (⟨0, 0⟩ : Us), (⟨0, 0⟩ : Ss)⟩ : Sc), (⟨(⟨0, 0⟩ : Tn), (⟨0, 0⟩ : Us), (⟨0, 0⟩ : Ss)⟩ : Sc), false))
          else ((⟨(⟨0, 0⟩ : Tn), (⟨0, 0⟩ : Us), (⟨0, 0⟩ : Ss)⟩ : Sc), (⟨(⟨0, 0⟩ : Tn), (⟨0, 0⟩ : Us), (⟨0, 0⟩ : Ss)⟩ : Sc), false))
        else if (lockgateref05_learn 2 false d e).2.2 = true then (if (lockgateref05_Norm ((lockgateref05_learn 2 false d e).1)).2 = true then (if (lockgateref05_Norm ((lockgateref05_learn 2 false d e).2.1)).2 = true then (((lockgateref05_Norm ((lockgateref05_learn 2 false d e).1)).1), ((lockgateref05_Norm ((lockgateref05_learn 2 false d e).2.1)).1), true)
            else ((⟨(⟨0, 0⟩ : Tn), (⟨0, 0⟩ : Us), (⟨0, 0⟩ : Ss)⟩ : Sc), (⟨(⟨0, 0⟩ : Tn), (⟨0, 0⟩ : Us), (⟨0, 0⟩ : Ss)⟩ : Sc), false))
          else ((⟨(⟨0, 0⟩ : Tn), (⟨0, 0⟩ : Us), (⟨0, 0⟩ : Ss)⟩ : Sc), (⟨(⟨0, 0⟩ : Tn), (⟨0, 0⟩ : Us), (⟨0, 0⟩ : Ss)⟩ : Sc), false))
        else ((⟨(⟨0, 0⟩ : Tn), (⟨0, 0⟩ : Us), (⟨0, 0⟩ : Ss)⟩ : Sc), (⟨(⟨0, 0⟩ : Tn), (⟨0, 0⟩ : Us), (⟨0, 0⟩ : Ss)⟩ : Sc), false))
      else (d, e, true))
    else (d, e, true))
  else (d, e, true)
def lockgateref05_Branch_12 (b : Bool) (c : Bool) (d : Sc) (e : Sc) : (Sc × Sc × Bool) :=
  if (lockgateref01_Jump 12 b ((lockgateref05_Is d).1) ((lockgateref05_Is e).1)).2 = true then (if (lockgateref05_Is d).2 = true then (if (lockgateref05_Is e).2 = true then (if (((lockgateref01_Jump 12 b ((lockgateref05_Is d).1) ((lockgateref05_Is e).1)).1) == c) = true then (d, e, true)
        else ((⟨(⟨0, 0⟩ : Tn), (⟨0, 0⟩ : Us), (⟨0, 0⟩ : Ss)⟩ : Sc), (⟨(⟨0, 0⟩ : Tn), (⟨0, 0⟩ : Us), (⟨0, 0⟩ : Ss)⟩ : Sc), false))
      else if b = true then (if c = true then (if (lockgateref05_learn 12 false d e).2.2 = true then (if (lockgateref05_Norm ((lockgateref05_learn 12 false d e).1)).2 = true then (if (lockgateref05_Norm ((lockgateref05_learn 12 false d e).2.1)).2 = true then (((lockgateref05_Norm ((lockgateref05_learn 12 false d e).1)).1), ((lockgateref05_Norm ((lockgateref05_learn 12 false d e).2.1)).1), true)
              else ((⟨(⟨0, 0⟩ : Tn), (⟨0, 0⟩ : Us), (⟨0, 0⟩ : Ss)⟩ : Sc), (⟨(⟨0, 0⟩ : Tn), (⟨0, 0⟩ : Us), (⟨0, 0⟩ : Ss)⟩ : Sc), false))
            else ((⟨(⟨0, 0⟩ : Tn), (⟨0, 0⟩ : Us), (⟨0, 0⟩ : Ss)⟩ : Sc), (⟨(⟨0, 0⟩ : Tn), (⟨0, 0⟩ : Us), (⟨0, 0⟩ : Ss)⟩ : Sc), false))
          else ((⟨(⟨0, 0⟩ : Tn), (⟨0, 0⟩ : Us), (⟨0, 0⟩ : Ss)⟩ : Sc), (⟨(⟨0, 0⟩ : Tn), (⟨0, 0⟩ : Us), (⟨0, 0⟩ : Ss)⟩ : Sc), false))
        else if (lockgateref05_learn 7 false d e).2.2 = true then (if (lockgateref05_Norm ((lockgateref05_learn 7 false d e).1)).2 = true then (if (lockgateref05_Norm ((lockgateref05_learn 7 false d e).2.1)).2 = true then (((lockgateref05_Norm ((lockgateref05_learn 7 false d e).1)).1), ((lockgateref05_Norm ((lockgateref05_learn 7 false d e).2.1)).1), true)
            else ((⟨(⟨0, 0⟩ : Tn), (⟨0, 0⟩ : Us), (⟨0, 0⟩ : Ss)⟩ : Sc), (⟨(⟨0, 0⟩ : Tn), (⟨0, 0⟩ : Us), (⟨0, 0⟩ : Ss)⟩ : Sc), false))
          else ((⟨(⟨0, 0⟩ : Tn), (⟨0, 0⟩ : Us), (⟨0, 0⟩ : Ss)⟩ : Sc), (⟨(⟨0, 0⟩ : Tn), (⟨0, 0⟩ : Us), (⟨0, 0⟩ : Ss)⟩ : Sc), false))
        else ((⟨(⟨0, 0⟩ : Tn), (⟨0, 0⟩ : Us), (⟨0, 0⟩ : Ss)⟩ : Sc), (⟨(⟨0, 0⟩ : Tn), (⟨0, 0⟩ : Us), (⟨0, 0⟩ : Ss)⟩ : Sc), false))
      else if (lockgateref05_Within d (lockgateref05_Upto 4)) = true then (if (lockgateref05_Within e (lockgateref05_Upto 4)) = true then (if 2147483648 ≤ d.u.hi then (d, e, true)
          else if 2147483648 ≤ e.u.hi then (d, e, true)
          else if c = true then (if (lockgateref05_learn 12 false d e).2.2 = true then (if (lockgateref05_Norm ((lockgateref05_learn 12 false d e).1)).2 = true then (if (lockgateref05_Norm ((lockgateref05_learn 12 false d e).2.1)).2 = true then (((lockgateref05_Norm ((lockgateref05_learn 12 false d e).1)).1), ((lockgateref05_Norm ((lockgateref05_learn 12 false d e).2.1)).1), true)
                else ((⟨(⟨0, 0⟩ : Tn), (⟨0, 0⟩ : Us), (⟨0, 0⟩ : Ss)⟩ : Sc), (⟨(⟨0, 0⟩ : Tn), (⟨0, 0⟩ : Us), (⟨0, 0⟩ : Ss)⟩ : Sc), false))
              else ((⟨(⟨0, 0⟩ : Tn), (⟨0, 0⟩ : Us), (⟨0, 0⟩ : Ss)⟩ : Sc), (⟨(⟨0, 0⟩ : Tn), (⟨0, 0⟩ : Us), (⟨0, 0⟩ : Ss)⟩ : Sc), false))
            else ((⟨(⟨0, 0⟩ : Tn), (⟨0, 0⟩ : Us), (⟨0, 0⟩ : Ss)⟩ : Sc), (⟨(⟨0, 0⟩ : Tn), (⟨0, 0⟩ : Us), (⟨0, 0⟩ : Ss)⟩ : Sc), false))
          else if (lockgateref05_learn 7 false d e).2.2 = true then (if (lockgateref05_Norm ((lockgateref05_learn 7 false d e).1)).2 = true then (if (lockgateref05_Norm ((lockgateref05_learn 7 false d e).2.1)).2 = true then (((lockgateref05_Norm ((lockgateref05_learn 7 false d e).1)).1), ((lockgateref05_Norm ((lockgateref05_learn 7 false d e).2.1)).1), true)
              else ((⟨(⟨0, 0⟩ : Tn), (⟨0, 0⟩ : Us), (⟨0, 0⟩ : Ss)⟩ : Sc), (⟨(⟨0, 0⟩ : Tn), (⟨0, 0⟩ : Us), (⟨0, 0⟩ : Ss)⟩ : Sc), false))
            else ((⟨(⟨0, 0⟩ : Tn), (⟨0, 0⟩ : Us), (⟨0, 0⟩ : Ss)⟩ : Sc), (⟨(⟨0, 0⟩ : Tn), (⟨0, 0⟩ : Us), (⟨0, 0⟩ : Ss)⟩ : Sc), false))
          else ((⟨(⟨0, 0⟩ : Tn), (⟨0, 0⟩ : Us), (⟨0, 0⟩ : Ss)⟩ : Sc), (⟨(⟨0, 0⟩ : Tn), (⟨0, 0⟩ : Us), (⟨0, 0⟩ : Ss)⟩ : Sc), false))
        else (d, e, true))
      else (d, e, true))
    else if b = true then (if c = true then (if (lockgateref05_learn 12 false d e).2.2 = true then (if (lockgateref05_Norm ((lockgateref05_learn 12 false d e).1)).2 = true then (if (lockgateref05_Norm ((lockgateref05_learn 12 false d e).2.1)).2 = true then (((lockgateref05_Norm ((lockgateref05_learn 12 false d e).1)).1), ((lockgateref05_Norm ((lockgateref05_learn 12 false d e).2.1)).1), true)
            else ((⟨(⟨0, 0⟩ : Tn), (⟨0, 0⟩ : Us), (⟨0, 0⟩ : Ss)⟩ : Sc), (⟨(⟨0, 0⟩ : Tn), (⟨0, 0⟩ : Us), (⟨0, 0⟩ : Ss)⟩ : Sc), false))
          else ((⟨(⟨0, 0⟩ : Tn), (⟨0, 0⟩ : Us), (⟨0, 0⟩ : Ss)⟩ : Sc), (⟨(⟨0, 0⟩ : Tn), (⟨0, 0⟩ : Us), (⟨0, 0⟩ : Ss)⟩ : Sc), false))
        else ((⟨(⟨0, 0⟩ : Tn), (⟨0, 0⟩ : Us), (⟨0, 0⟩ : Ss)⟩ : Sc), (⟨(⟨0, 0⟩ : Tn), (⟨0, 0⟩ : Us), (⟨0, 0⟩ : Ss)⟩ : Sc), false))
      else if (lockgateref05_learn 7 false d e).2.2 = true then (if (lockgateref05_Norm ((lockgateref05_learn 7 false d e).1)).2 = true then (if (lockgateref05_Norm ((lockgateref05_learn 7 false d e).2.1)).2 = true then (((lockgateref05_Norm ((lockgateref05_learn 7 false d e).1)).1), ((lockgateref05_Norm ((lockgateref05_learn 7 false d e).2.1)).1), true)
          else ((⟨(⟨0, 0⟩ : Tn), (⟨0, 0⟩ : Us), (⟨0, 0⟩ : Ss)⟩ : Sc), (⟨(⟨0, 0⟩ : Tn), (⟨0, 0⟩ : Us), (⟨0, 0⟩ : Ss)⟩ : Sc), false))
        else ((⟨(⟨0, 0⟩ : Tn), (⟨0, 0⟩ : Us), (⟨0, 0⟩ : Ss)⟩ : Sc), (⟨(⟨0, 0⟩ : Tn), (⟨0, 0⟩ : Us), (⟨0, 0⟩ : Ss)⟩ : Sc), false))
      else ((⟨(⟨0, 0⟩ : Tn), (⟨0, 0⟩ : Us), (⟨0, 0⟩ : Ss)⟩ : Sc), (⟨(⟨0, 0⟩ : Tn), (⟨0, 0⟩ : Us), (⟨0, 0⟩ : Ss)⟩ : Sc), false))
    else if (lockgateref05_Within d (lockgateref05_Upto 4)) = true then (if (lockgateref05_Within e (lockgateref05_Upto 4)) = true then (if 2147483648 ≤ d.u.hi then (d, e, true)
        else if 2147483648 ≤ e.u.hi then (d, e, true)
        else if c = true then (if (lockgateref05_learn 12 false d e).2.2 = true then (if (lockgateref05_Norm ((lockgateref05_learn 12 false d e).1)).2 = true then (if (lockgateref05_Norm ((lockgateref05_learn 12 false d e).2.1)).2 = true then (((lockgateref05_Norm ((lockgateref05_learn 12 false d e).1)).1), ((lockgateref05_Norm ((lockgateref05_learn 12 false d e).2.1)).1), true)
              else ((⟨(⟨0, 0⟩ : Tn), (⟨0, 0⟩ : Us), (⟨0, 0⟩ : Ss)⟩ : Sc), (⟨(⟨0, 0⟩ : Tn), (⟨0, 0⟩ : Us), (⟨0, 0⟩ : Ss)⟩ : Sc), false))
            else ((⟨(⟨0, 0⟩ : Tn), (⟨0, 0⟩ : Us), (⟨0, 0⟩ : Ss)⟩ : Sc), (⟨(⟨0, 0⟩ : Tn), (⟨0, 0⟩ : Us), (⟨0, 0⟩ : Ss)⟩ : Sc), false))
          else ((⟨(⟨0, 0⟩ : Tn), (⟨0, 0⟩ : Us), (⟨0, 0⟩ : Ss)⟩ : Sc), (⟨(⟨0, 0⟩ : Tn), (⟨0, 0⟩ : Us), (⟨0, 0⟩ : Ss)⟩ : Sc), false))
        else if (lockgateref05_learn 7 false d e).2.2 = true then (if (lockgateref05_Norm ((lockgateref05_learn 7 false d e).1)).2 = true then (if (lockgateref05_Norm ((lockgateref05_learn 7 false d e).2.1)).2 = true then (((lockgateref05_Norm ((lockgateref05_learn 7 false d e).1)).1), ((lockgateref05_Norm ((lockgateref05_learn 7 false d e).2.1)).1), true)
            else ((⟨(⟨0, 0⟩ : Tn), (⟨0, 0⟩ : Us), (⟨0, 0⟩ : Ss)⟩ : Sc), (⟨(⟨0, 0⟩ : Tn), (⟨0, 0⟩ : Us), (⟨0, 0⟩ : Ss)⟩ : Sc), false))
          else ((⟨(⟨0, 0⟩ : Tn), (⟨0, 0⟩ : Us), (⟨0, 0⟩ : Ss)⟩ : Sc), (⟨(⟨0, 0⟩ : Tn), (⟨0, 0⟩ : Us), (⟨0, 0⟩ : Ss)⟩ : Sc), false))
        else ((⟨(⟨0, 0⟩ : Tn), (⟨0, 0⟩ : Us), (⟨0, 0⟩ : Ss)⟩ : Sc), (⟨(⟨0, 0⟩ : Tn), (⟨0, 0⟩ : Us), (⟨0, 0⟩ : Ss)⟩ : Sc), false))
      else (d, e, true))
    else (d, e, true))
  else (d, e, true)
def lockgateref05_Branch_13 (b : Bool) (c : Bool) (d : Sc) (e : Sc) : (Sc × Sc × Bool) :=
  if (lockgateref01_Jump 13 b ((lockgateref05_Is d).1) ((lockgateref05_Is e).1)).2 = true then (if (lockgateref05_Is d).2 = true then (if (lockgateref05_Is e).2 = true then (if (((lockgateref01_Jump 13 b ((lockgateref05_Is d).1) ((lockgateref05_Is e).1)).1) == c) = true then (d, e, true)
        else ((⟨(⟨0, 0⟩ : Tn), (⟨0, 0⟩ : Us), (⟨0, 0⟩ : Ss)⟩ : Sc), (⟨(⟨0, 0⟩ : Tn), (⟨0, 0⟩ : Us), (⟨0, 0⟩ : Ss)⟩ : Sc), false))
      else if b = true then (if c = true then (if (lockgateref05_learn 13 false d e).2.2 = true then (if (lockgateref05_Norm ((lockgateref05_learn 13 false d e).1)).2 = true then (if (lockgateref05_Norm ((lockgateref05_learn 13 false d e).2.1)).2 = true then (((lockgateref05_Norm ((lockgateref05_learn 13 false d e).1)).1), ((lockgateref05_Norm ((lockgateref05_learn 13 false d e).2.1)).1), true)
              else ((⟨(⟨0, 0⟩ : Tn), (⟨0, 0⟩ : Us), (⟨0, 0⟩ : Ss)⟩ : Sc), (⟨(⟨0, 0⟩ : Tn), (⟨0, 0⟩ : Us), (⟨0, 0⟩ : Ss)⟩ : Sc), false))
            else ((⟨(⟨0, 0⟩ : Tn), (⟨0, 0⟩ : Us), (⟨0, 0⟩ : Ss)⟩ : Sc), (⟨(⟨0, 0⟩ : Tn), (⟨0, 0⟩ : Us), (⟨0, 0⟩ : Ss)⟩ : Sc), false))
          else ((⟨(⟨0, 0⟩ : Tn), (⟨0, 0⟩ : Us), (⟨0, 0⟩ : Ss)⟩ : Sc), (⟨(⟨0, 0⟩ : Tn), (⟨0, 0⟩ : Us), (⟨0, 0⟩ : Ss)⟩ : Sc), false))
        else if (lockgateref05_learn 6 false d e).2.2 = true then (if (lockgateref05_Norm ((lockgateref05_learn 6 false d e).1)).2 = true then (if (lockgateref05_Norm ((lockgateref05_learn 6 false d e).2.1)).2 = true then (((lockgateref05_Norm ((lockgateref05_learn 6 false d e).1)).1), ((lockgateref05_Norm ((lockgateref05_learn 6 false d e).2.1)).1), true)
            else ((⟨(⟨0, 0⟩ : Tn), (⟨0, 0⟩ : Us), (⟨0, 0⟩ : Ss)⟩ : Sc), (⟨(⟨0, 0⟩ : Tn), (⟨0, 0⟩ : Us), (⟨0, 0⟩ : Ss)⟩ : Sc), false))
          else ((⟨(⟨0, 0⟩ : Tn), (⟨0, 0⟩ : Us), (⟨0, 0⟩ : Ss)⟩ : Sc), (⟨(⟨0, 0⟩ : Tn), (⟨0, 0⟩ : Us), (⟨0, 0⟩ : Ss)⟩ : Sc), false))
        else ((⟨(⟨0, 0⟩ : Tn), (⟨0, 0⟩ : Us), (⟨0, 0⟩ : Ss)⟩ : Sc), (⟨(⟨0, 0⟩ : Tn), (⟨0, 0⟩ : Us), (⟨0, 0⟩ : Ss)⟩ : Sc), false))
      else if (lockgateref05_Within d (lockgateref05_Upto 4)) = true then (if (lockgateref05_Within e (lockgateref05_Upto 4)) = true then (if 2147483648 ≤ d.u.hi then (d, e, true)
          else if 2147483648 ≤ e.u.hi then (d, e, true)
          else if c = true then (if (lockgateref05_learn 13 false d e).2.2 = true then (if (lockgateref05_Norm ((lockgateref05_learn 13 false d e).1)).2 = true then (if (lockgateref05_Norm ((lockgateref05_learn 13 false d e).2.1)).2 = true then (((lockgateref05_Norm ((lockgateref05_learn 13 false d e).1)).1), ((lockgateref05_Norm ((lockgateref05_learn 13 false d e).2.1)).1), true)
                else ((⟨(⟨0, 0⟩ : Tn), (⟨0, 0⟩ : Us), (⟨0, 0⟩ : Ss)⟩ : Sc), (⟨(⟨0, 0⟩ : Tn), (⟨0, 0⟩ : Us), (⟨0, 0⟩ : Ss)⟩ : Sc), false))
              else ((⟨(⟨0, 0⟩ : Tn), (⟨0, 0⟩ : Us), (⟨0, 0⟩ : Ss)⟩ : Sc), (⟨(⟨0, 0⟩ : Tn), (⟨0, 0⟩ : Us), (⟨0, 0⟩ : Ss)⟩ : Sc), false))
            else ((⟨(⟨0, 0⟩ : Tn), (⟨0, 0⟩ : Us), (⟨0, 0⟩ : Ss)⟩ : Sc), (⟨(⟨0, 0⟩ : Tn), (⟨0, 0⟩ : Us), (⟨0, 0⟩ : Ss)⟩ : Sc), false))
          else if (lockgateref05_learn 6 false d e).2.2 = true then (if (lockgateref05_Norm ((lockgateref05_learn 6 false d e).1)).2 = true then (if (lockgateref05_Norm ((lockgateref05_learn 6 false d e).2.1)).2 = true then (((lockgateref05_Norm ((lockgateref05_learn 6 false d e).1)).1), ((lockgateref05_Norm ((lockgateref05_learn 6 false d e).2.1)).1), true)
              else ((⟨(⟨0, 0⟩ : Tn), (⟨0, 0⟩ : Us), (⟨0, 0⟩ : Ss)⟩ : Sc), (⟨(⟨0, 0⟩ : Tn), (⟨0, 0⟩ : Us), (⟨0, 0⟩ : Ss)⟩ : Sc), false))
            else ((⟨(⟨0, 0⟩ : Tn), (⟨0, 0⟩ : Us), (⟨0, 0⟩ : Ss)⟩ : Sc), (⟨(⟨0, 0⟩ : Tn), (⟨0, 0⟩ : Us), (⟨0, 0⟩ : Ss)⟩ : Sc), false))
          else ((⟨(⟨0, 0⟩ : Tn), (⟨0, 0⟩ : Us), (⟨0, 0⟩ : Ss)⟩ : Sc), (⟨(⟨0, 0⟩ : Tn), (⟨0, 0⟩ : Us), (⟨0, 0⟩ : Ss)⟩ : Sc), false))
        else (d, e, true))
      else (d, e, true))
    else if b = true then (if c = true then (if (lockgateref05_learn 13 false d e).2.2 = true then (if (lockgateref05_Norm ((lockgateref05_learn 13 false d e).1)).2 = true then (if (lockgateref05_Norm ((lockgateref05_learn 13 false d e).2.1)).2 = true then (((lockgateref05_Norm ((lockgateref05_learn 13 false d e).1)).1), ((lockgateref05_Norm ((lockgateref05_learn 13 false d e).2.1)).1), true)
            else ((⟨(⟨0, 0⟩ : Tn), (⟨0, 0⟩ : Us), (⟨0, 0⟩ : Ss)⟩ : Sc), (⟨(⟨0, 0⟩ : Tn), (⟨0, 0⟩ : Us), (⟨0, 0⟩ : Ss)⟩ : Sc), false))
          else ((⟨(⟨0, 0⟩ : Tn), (⟨0, 0⟩ : Us), (⟨0, 0⟩ : Ss)⟩ : Sc), (⟨(⟨0, 0⟩ : Tn), (⟨0, 0⟩ : Us), (⟨0, 0⟩ : Ss)⟩ : Sc), false))
        else ((⟨(⟨0, 0⟩ : Tn), (⟨0, 0⟩ : Us), (⟨0, 0⟩ : Ss)⟩ : Sc), (⟨(⟨0, 0⟩ : Tn), (⟨0, 0⟩ : Us), (⟨0, 0⟩ : Ss)⟩ : Sc), false))
      else if (lockgateref05_learn 6 false d e).2.2 = true then (if (lockgateref05_Norm ((lockgateref05_learn 6 false d e).1)).2 = true then (if (lockgateref05_Norm ((lockgateref05_learn 6 false d e).2.1)).2 = true then (((lockgateref05_Norm ((lockgateref05_learn 6 false d e).1)).1), ((lockgateref05_Norm ((lockgateref05_learn 6 false d e).2.1)).1), true)
          else ((⟨(⟨0, 0⟩ : Tn), (⟨0, 0⟩ : Us), (⟨0, 0⟩ : Ss)⟩ : Sc), (⟨(⟨0, 0⟩ : Tn), (⟨0, 0⟩ : Us), (⟨0, 0⟩ : Ss)⟩ : Sc), false))
        else ((⟨(⟨0, 0⟩ : Tn), (⟨0, 0⟩ : Us), (⟨0, 0⟩ : Ss)⟩ : Sc), (⟨(⟨0, 0⟩ : Tn), (⟨0, 0⟩ : Us), (⟨0, 0⟩ : Ss)⟩ : Sc), false))
      else ((⟨(⟨0, 0⟩ : Tn), (⟨0, 0⟩ : Us), (⟨0, 0⟩ : Ss)⟩ : Sc), (⟨(⟨0, 0⟩ : Tn), (⟨0, 0⟩ : Us), (⟨0, 0⟩ : Ss)⟩ : Sc), false))
    else if (lockgateref05_Within d (lockgateref05_Upto 4)) = true then (if (lockgateref05_Within e (lockgateref05_Upto 4)) = true then (if 2147483648 ≤ d.u.hi then (d, e, true)
        else if 2147483648 ≤ e.u.hi then (d, e, true)
        else if c = true then (if (lockgateref05_learn 13 false d e).2.2 = true then (if (lockgateref05_Norm ((lockgateref05_learn 13 false d e).1)).2 = true then (if (lockgateref05_Norm ((lockgateref05_learn 13 false d e).2.1)).2 = true then (((lockgateref05_Norm ((lockgateref05_learn 13 false d e).1)).1), ((lockgateref05_Norm ((lockgateref05_learn 13 false d e).2.1)).1), true)
              else ((⟨(⟨0, 0⟩ : Tn), (⟨0, 0⟩ : Us), (⟨0, 0⟩ : Ss)⟩ : Sc), (⟨(⟨0, 0⟩ : Tn), (⟨0, 0⟩ : Us), (⟨0, 0⟩ : Ss)⟩ : Sc), false))
            else ((⟨(⟨0, 0⟩ : Tn), (⟨0, 0⟩ : Us), (⟨0, 0⟩ : Ss)⟩ : Sc), (⟨(⟨0, 0⟩ : Tn), (⟨0, 0⟩ : Us), (⟨0, 0⟩ : Ss)⟩ : Sc), false))
          else ((⟨(⟨0, 0⟩ : Tn), (⟨0, 0⟩ : Us), (⟨0, 0⟩ : Ss)⟩ : Sc), (⟨(⟨0, 0⟩ : Tn), (⟨0, 0⟩ : Us), (⟨0, 0⟩ : Ss)⟩ : Sc), false))
        else if (lockgateref05_learn 6 false d e).2.2 = true then (if (lockgateref05_Norm ((lockgateref05_learn 6 false d e).1)).2 = true then (if (lockgateref05_Norm ((lockgateref05_learn 6 false d e).2.1)).2 = true then (((lockgateref05_Norm ((lockgateref05_learn 6 false d e).1)).1), ((lockgateref05_Norm ((lockgateref05_learn 6 false d e).2.1)).1), true)
            else ((⟨(⟨0, 0⟩ : Tn), (⟨0, 0⟩ : Us), (⟨0, 0⟩ : Ss)⟩ : Sc), (⟨(⟨0, 0⟩ : Tn), (⟨0, 0⟩ : Us), (⟨0, 0⟩ : Ss)⟩ : Sc), false))
          else ((⟨(⟨0, 0⟩ : Tn), (⟨0, 0⟩ : Us), (⟨0, 0⟩ : Ss)⟩ : Sc), (⟨(⟨0, 0⟩ : Tn), (⟨0, 0⟩ : Us), (⟨0, 0⟩ : Ss)⟩ : Sc), false))
        else ((⟨(⟨0, 0⟩ : Tn), (⟨0, 0⟩ : Us), (⟨0, 0⟩ : Ss)⟩ : Sc), (⟨(⟨0, 0⟩ : Tn), (⟨0, 0⟩ : Us), (⟨0, 0⟩ : Ss)⟩ : Sc), false))
      else (d, e, true))
    else (d, e, true))
  else (d, e, true)
def lockgateref05_Branch_x (a : Int) (b : Bool) (c : Bool) (d : Sc) (e : Sc) : (Sc × Sc × Bool) :=
  (d, e, true)
def lockgateref05_Branch (a : Int) (b : Bool) (c : Bool) (d : Sc) (e : Sc) : (Sc × Sc × Bool) :=
  if a = 1 then lockgateref05_Branch_1 b c d e else
  if a = 2 then lockgateref05_Branch_2 b c d e else
  if a = 3 then lockgateref05_Branch_3 b c d e else
  if a = 4 then lockgateref05_Branch_4 b c d e else
  if a = 5 then lockgateref05_Branch_5 b c d e else
  if a = 6 then lockgateref05_Branch_6 b c d e else
  if a = 7 then lockgateref05_Branch_7 b c d e else
  if a = 10 then lockgateref05_Branch_10 b c d e else
  if a = 11 then lockgateref05_Branch_11 b c d e else
  if a = 12 then lockgateref05_Branch_12 b c d e else
  if a = 13 then lockgateref05_Branch_13 b c d e else
  lockgateref05_Branch_x a b c d e
end Go.Proofs.T
