/-
  Plain laws: the document's jumps are the program's.
-/
import Derived.Test.YtneejoienmffmaaGreatNK
import Derived.Test.YtneejoienmffmaaGreatM11
set_option linter.unusedVariables false
set_option linter.unusedSimpArgs false
set_option maxRecDepth 100000
namespace Go.Proofs.T
open Go Go.Proofs Go.Proofs.SX
theorem W64b {v : Int} (h : W64 v) : v < 2 ^ 64 := by rw [e64]; exact h.2
theorem W32b {v : Int} : v % 4294967296 < 2 ^ 32 := by rw [e32]; omega
theorem oP {v w : Int} (hv : W64 v) (hw : W64 w) : lockgateref01_order v w 64 false = word_order_uint64 v w := order_plain (w := 64) hv hw (by decide) (W64b hv) (W64b hw)
theorem oP32 {v w : Int} (hv : W64 v) (hw : W64 w) : lockgateref01_order (v % 4294967296) (w % 4294967296) 32 false = word_order_uint64 (v % 4294967296) (w % 4294967296) := order_plain (w := 32) (W32 hv) (W32 hw) (by decide) W32b W32b
theorem sg64 {v : Int} (hv : W64 v) : sgn 64 v = IntKind.i64.wrap v := by
  unfold sgn
  rw [show (2 : Int) ^ (64 - 1) = 9223372036854775808 by decide, e64, wrap_i64]
  unfold W64 at hv
  split <;> split <;> omega
theorem sg32 {v : Int} (hv : W64 v) : sgn 32 (v % 4294967296) = IntKind.i64.wrap (IntKind.i32.wrap (IntKind.u32.wrap (v % 4294967296))) := by
  unfold sgn
  rw [show (2 : Int) ^ (32 - 1) = 2147483648 by decide, e32, wrap_i32, wrap_u32, wrap_i64]
  unfold W64 at hv
  (repeat' split) <;> omega
theorem oS {v w : Int} (hv : W64 v) (hw : W64 w) : lockgateref01_order v w 64 true = word_order_int64 (IntKind.i64.wrap v) (IntKind.i64.wrap w) := by
  rw [← sg64 hv, ← sg64 hw]
  exact order_signed (w := 64) hv hw (by decide) (W64b hv) (W64b hw)
theorem oS32 {v w : Int} (hv : W64 v) (hw : W64 w) : lockgateref01_order (v % 4294967296) (w % 4294967296) 32 true = word_order_int64 (IntKind.i64.wrap (IntKind.i32.wrap (IntKind.u32.wrap (v % 4294967296)))) (IntKind.i64.wrap (IntKind.i32.wrap (IntKind.u32.wrap (w % 4294967296)))) := by
  rw [← sg32 hv, ← sg32 hw]
  exact order_signed (w := 32) (W32 hv) (W32 hw) (by decide) W32b W32b
theorem bAnd {v w : Int} (hv : W64 v) (hw : W64 w) : lockgateref01_bits 5 v w = Go.bits .and .u64 v w := by
  obtain ⟨x, rfl⟩ := exists_bv hv.1 hv.2
  obtain ⟨y, rfl⟩ := exists_bv hw.1 hw.2
  rw [and_u64]
  exact bits_eq (.inr (.inl ⟨rfl, rfl⟩))
theorem posne {x : Int} (h : 0 ≤ x) : decide (0 < x) = (x != 0) := by
  by_cases hz : x = 0
  · subst hz; rfl
  · have : 0 < x := by omega
    simp [this, hz]
theorem rJumpT {k v w : Int} (hv : W64 v) (hw : W64 w) : lockgateref01_Jump k true v w = word_Jump k true v w := by
  have hb := bW .and v w
  unfold lockgateref01_Jump word_Jump
  rw [if_pos rfl, if_pos rfl]
  simp only [Low64, oP hv hw, oS hv hw, bAnd hv hw, posne hb.1]
  by_cases k1 : k = 1
  · simp only [k1, if_true]
  by_cases k2 : k = 2
  · subst k2; rfl
  by_cases k3 : k = 3
  · subst k3; rfl
  by_cases k4 : k = 4
  · subst k4; rfl
  by_cases k5 : k = 5
  · subst k5; rfl
  by_cases k6 : k = 6
  · subst k6; rfl
  by_cases k7 : k = 7
  · subst k7; rfl
  by_cases k10 : k = 10
  · subst k10; rfl
  by_cases k11 : k = 11
  · subst k11; rfl
  by_cases k12 : k = 12
  · subst k12; rfl
  by_cases k13 : k = 13
  · subst k13; rfl
  simp only [k1, k2, k3, k4, k5, k6, k7, k10, k11, k12, k13, if_false]
theorem w32u {v : Int} (hv : W64 v) : IntKind.u64.wrap (IntKind.u32.wrap v) = v % 4294967296 := by
  rw [wrap_u64, wrap_u32]; omega
theorem rJumpF {k v w : Int} (hv : W64 v) (hw : W64 w) : lockgateref01_Jump k false v w = word_Jump k false v w := by
  have hb := bW .and (v % 4294967296) (w % 4294967296)
  unfold lockgateref01_Jump word_Jump
  rw [if_neg Bool.false_ne_true, if_neg Bool.false_ne_true]
  simp only [Low32 hv.1, Low32 hw.1, w32u hv, w32u hw, oP32 hv hw, oS32 hv hw, bAnd (W32 hv) (W32 hw), posne hb.1]
  by_cases k1 : k = 1
  · simp only [k1, if_true]
  by_cases k2 : k = 2
  · subst k2; rfl
  by_cases k3 : k = 3
  · subst k3; rfl
  by_cases k4 : k = 4
  · subst k4; rfl
  by_cases k5 : k = 5
  · subst k5; rfl
  by_cases k6 : k = 6
  · subst k6; rfl
  by_cases k7 : k = 7
  · subst k7; rfl
  by_cases k10 : k = 10
  · subst k10; rfl
  by_cases k11 : k = 11
  · subst k11; rfl
  by_cases k12 : k = 12
  · subst k12; rfl
  by_cases k13 : k = 13
  · subst k13; rfl
  simp only [k1, k2, k3, k4, k5, k6, k7, k10, k11, k12, k13, if_false]
theorem rJump {k v w : Int} {b : Bool} (hv : W64 v) (hw : W64 w) : lockgateref01_Jump k b v w = word_Jump k b v w := by
  cases b
  · exact rJumpF hv hw
  · exact rJumpT hv hw
end Go.Proofs.T
