/-
  Plain laws: tnums of any width, over BitVec alone.
-/
namespace TT
variable {w : Nat}

theorem carry_mono (x y x' y' : BitVec w) (c c' : Bool) (hx : ∀ j, x.getLsbD j = true → x'.getLsbD j = true) (hy : ∀ j, y.getLsbD j = true → y'.getLsbD j = true) (hc : c = true → c' = true) :
    ∀ i, BitVec.carry i x y c = true → BitVec.carry i x' y' c' = true := by
  intro i
  induction i with
  | zero => simpa using hc
  | succ i ih =>
    rw [BitVec.carry_succ, BitVec.carry_succ]
    have h1 := hx i; have h2 := hy i
    revert h1 h2 ih
    cases x.getLsbD i <;> cases y.getLsbD i <;> cases BitVec.carry i x y c <;> cases x'.getLsbD i <;> cases y'.getLsbD i <;> cases BitVec.carry i x' y' c' <;> simp [Bool.atLeastTwo]

/-- x is of (v, m): outside the mask its bits are v's. -/
def In (v m x : BitVec w) : Prop := x &&& ~~~m = v

theorem In.bit {v m x : BitVec w} (h : In v m x) {i : Nat} (hi : i < w) : v.getLsbD i = (x.getLsbD i && !m.getLsbD i) := by
  rw [← h]; simp [hi]

theorem in_of_bits {v m x : BitVec w} (h : ∀ i, i < w → v.getLsbD i = (x.getLsbD i && !m.getLsbD i)) : In v m x := by
  apply BitVec.eq_of_getLsbD_eq
  intro i hi
  rw [h i hi]; simp [hi]

theorem In.self_mask {v m x : BitVec w} (h : In v m x) : v &&& m = 0#w := by
  rw [← h, BitVec.and_assoc, BitVec.and_comm (~~~m)]; simp

theorem add_or {a b : BitVec w} (h : a &&& b = 0#w) : a + b = a ||| b := BitVec.add_eq_or_of_and_eq_zero a b h

theorem sub_bit (x y : BitVec w) {i : Nat} (hi : i < w) : (x - y).getLsbD i = (x.getLsbD i ^^ (!y.getLsbD i ^^ BitVec.carry i x (~~~y) true)) := by
  have h := BitVec.getLsbD_add_add_bool (i := i) hi x (~~~y) true
  have e : x + ~~~y + BitVec.setWidth w (BitVec.ofBool true) = x - y := by
    rw [BitVec.sub_eq_add_neg, BitVec.neg_eq_not_add, ← BitVec.add_assoc]
    congr 1
    apply BitVec.eq_of_toNat_eq; simp
  rw [e] at h
  rw [h]; simp [hi]

theorem add_in {v1 m1 x v2 m2 y : BitVec w} (h1 : In v1 m1 x) (h2 : In v2 m2 y) :
    In ((v1 + v2) &&& ~~~(((v1 + v2 + m1 + m2) ^^^ (v1 + v2)) ||| m1 ||| m2)) (((v1 + v2 + m1 + m2) ^^^ (v1 + v2)) ||| m1 ||| m2) (x + y) := by
  have hs : v1 + v2 + m1 + m2 = (v1 ||| m1) + (v2 ||| m2) := by
    rw [← add_or h1.self_mask, ← add_or h2.self_mask]; ac_rfl
  rw [hs]
  apply in_of_bits
  intro i hi
  have b1 := h1.bit hi
  have b2 := h2.bit hi
  have lo := carry_mono v1 v2 x y false false (fun j hj => by
      by_cases hw : j < w
      · have := h1.bit hw; rw [hj] at this; simp at this; exact this.1
      · rw [BitVec.getLsbD_of_ge _ _ (by omega)] at hj; simp at hj) (fun j hj => by
      by_cases hw : j < w
      · have := h2.bit hw; rw [hj] at this; simp at this; exact this.1
      · rw [BitVec.getLsbD_of_ge _ _ (by omega)] at hj; simp at hj) (fun h => h) i
  have hi' := carry_mono x y (v1 ||| m1) (v2 ||| m2) false false (fun j hj => by
      by_cases hw : j < w
      · have := h1.bit hw; rw [hj] at this; simp at this; simp [this]
      · rw [BitVec.getLsbD_of_ge _ _ (by omega)] at hj; simp at hj) (fun j hj => by
      by_cases hw : j < w
      · have := h2.bit hw; rw [hj] at this; simp at this; simp [this]
      · rw [BitVec.getLsbD_of_ge _ _ (by omega)] at hj; simp at hj) (fun h => h) i
  simp only [BitVec.getLsbD_and, BitVec.getLsbD_not, BitVec.getLsbD_or, BitVec.getLsbD_xor, BitVec.getLsbD_add hi, hi, decide_true, Bool.true_and]
  revert b1 b2 lo hi'
  cases x.getLsbD i <;> cases y.getLsbD i <;> cases m1.getLsbD i <;> cases m2.getLsbD i <;> cases v1.getLsbD i <;> cases v2.getLsbD i <;> cases BitVec.carry i v1 v2 false <;> cases BitVec.carry i x y false <;> cases BitVec.carry i (v1 ||| m1) (v2 ||| m2) false <;> simp

theorem sub_in {v1 m1 x v2 m2 y : BitVec w} (h1 : In v1 m1 x) (h2 : In v2 m2 y) :
    In ((v1 - v2) &&& ~~~(((v1 - v2 + m1) ^^^ (v1 - v2 - m2)) ||| m1 ||| m2)) (((v1 - v2 + m1) ^^^ (v1 - v2 - m2)) ||| m1 ||| m2) (x - y) := by
  have hs : v1 - v2 + m1 = (v1 ||| m1) - v2 := by
    rw [← add_or h1.self_mask]; simp only [BitVec.sub_eq_add_neg]; ac_rfl
  have hd : v1 - v2 - m2 = v1 - (v2 ||| m2) := by
    rw [← add_or h2.self_mask]; simp only [BitVec.sub_eq_add_neg, BitVec.neg_add]; ac_rfl
  rw [hs, hd]
  apply in_of_bits
  intro i hi
  have b1 := h1.bit hi
  have b2 := h2.bit hi
  have g1 : ∀ j, v1.getLsbD j = true → x.getLsbD j = true := fun j hj => by
      by_cases hw : j < w
      · have := h1.bit hw; rw [hj] at this; simp at this; exact this.1
      · rw [BitVec.getLsbD_of_ge _ _ (by omega)] at hj; simp at hj
  have g2 : ∀ j, x.getLsbD j = true → (v1 ||| m1).getLsbD j = true := fun j hj => by
      by_cases hw : j < w
      · have := h1.bit hw; rw [hj] at this; simp at this; simp [this]
      · rw [BitVec.getLsbD_of_ge _ _ (by omega)] at hj; simp at hj
  have g3 : ∀ j, (~~~y).getLsbD j = true → (~~~v2).getLsbD j = true := fun j hj => by
      by_cases hw : j < w
      · have := h2.bit hw; rw [BitVec.getLsbD_not] at hj ⊢; revert this hj; cases y.getLsbD j <;> cases v2.getLsbD j <;> cases m2.getLsbD j <;> simp [hw]
      · rw [BitVec.getLsbD_of_ge _ _ (by omega)] at hj; simp at hj
  have g4 : ∀ j, (~~~(v2 ||| m2)).getLsbD j = true → (~~~y).getLsbD j = true := fun j hj => by
      by_cases hw : j < w
      · have := h2.bit hw; rw [BitVec.getLsbD_not, BitVec.getLsbD_or] at hj; rw [BitVec.getLsbD_not]; revert this hj; cases y.getLsbD j <;> cases v2.getLsbD j <;> cases m2.getLsbD j <;> simp [hw]
      · rw [BitVec.getLsbD_of_ge _ _ (by omega)] at hj; simp at hj
  have c1 := carry_mono v1 (~~~(v2 ||| m2)) x (~~~y) true true g1 g4 (fun h => h) i
  have c2 := carry_mono x (~~~y) (v1 ||| m1) (~~~v2) true true g2 g3 (fun h => h) i
  have c3 := carry_mono v1 (~~~(v2 ||| m2)) v1 (~~~v2) true true (fun _ h => h) (fun j h => g3 j (g4 j h)) (fun h => h) i
  have c4 := carry_mono v1 (~~~v2) (v1 ||| m1) (~~~v2) true true (fun j h => g2 j (g1 j h)) (fun _ h => h) (fun h => h) i
  simp only [BitVec.getLsbD_and, BitVec.getLsbD_not, BitVec.getLsbD_or, BitVec.getLsbD_xor, sub_bit _ _ hi, hi, decide_true, Bool.true_and]
  revert b1 b2 c1 c2 c3 c4
  generalize BitVec.carry i v1 (~~~(v2 ||| m2)) true = k1
  generalize BitVec.carry i x (~~~y) true = k2
  generalize BitVec.carry i v1 (~~~v2) true = k3
  generalize BitVec.carry i (v1 ||| m1) (~~~v2) true = k4
  cases x.getLsbD i <;> cases y.getLsbD i <;> cases m1.getLsbD i <;> cases m2.getLsbD i <;> cases v1.getLsbD i <;> cases v2.getLsbD i <;> cases k1 <;> cases k2 <;> cases k3 <;> cases k4 <;> simp
end TT
namespace TT
variable {w : Nat}
theorem and_in {v1 m1 x v2 m2 y : BitVec w} (h1 : In v1 m1 x) (h2 : In v2 m2 y) : In (v1 &&& v2) ((v1 ||| m1) &&& (v2 ||| m2) &&& ~~~(v1 &&& v2)) (x &&& y) := by
  apply in_of_bits
  intro i hi
  have b1 := h1.bit hi
  have b2 := h2.bit hi
  simp only [BitVec.getLsbD_and, BitVec.getLsbD_not, BitVec.getLsbD_or, hi, decide_true, Bool.true_and]
  revert b1 b2
  cases x.getLsbD i <;> cases y.getLsbD i <;> cases m1.getLsbD i <;> cases m2.getLsbD i <;> cases v1.getLsbD i <;> cases v2.getLsbD i <;> simp
theorem or_in {v1 m1 x v2 m2 y : BitVec w} (h1 : In v1 m1 x) (h2 : In v2 m2 y) : In (v1 ||| v2) ((m1 ||| m2) &&& ~~~(v1 ||| v2)) (x ||| y) := by
  apply in_of_bits
  intro i hi
  have b1 := h1.bit hi
  have b2 := h2.bit hi
  simp only [BitVec.getLsbD_and, BitVec.getLsbD_not, BitVec.getLsbD_or, hi, decide_true, Bool.true_and]
  revert b1 b2
  cases x.getLsbD i <;> cases y.getLsbD i <;> cases m1.getLsbD i <;> cases m2.getLsbD i <;> cases v1.getLsbD i <;> cases v2.getLsbD i <;> simp
theorem xor_in {v1 m1 x v2 m2 y : BitVec w} (h1 : In v1 m1 x) (h2 : In v2 m2 y) : In ((v1 ^^^ v2) &&& ~~~(m1 ||| m2)) (m1 ||| m2) (x ^^^ y) := by
  apply in_of_bits
  intro i hi
  have b1 := h1.bit hi
  have b2 := h2.bit hi
  simp only [BitVec.getLsbD_and, BitVec.getLsbD_not, BitVec.getLsbD_or, BitVec.getLsbD_xor, hi, decide_true, Bool.true_and]
  revert b1 b2
  cases x.getLsbD i <;> cases y.getLsbD i <;> cases m1.getLsbD i <;> cases m2.getLsbD i <;> cases v1.getLsbD i <;> cases v2.getLsbD i <;> simp
theorem shl_in {v m x : BitVec w} (h : In v m x) (k : Nat) : In (v <<< k) (m <<< k) (x <<< k) := by
  apply in_of_bits
  intro i hi
  simp only [BitVec.getLsbD_shiftLeft, hi, decide_true, Bool.true_and]
  by_cases hk : i < k
  · simp [hk]
  · have b := h.bit (show i - k < w by omega)
    simp [hk, b]
theorem shr_in {v m x : BitVec w} (h : In v m x) (k : Nat) : In (v >>> k) (m >>> k) (x >>> k) := by
  apply in_of_bits
  intro i hi
  simp only [BitVec.getLsbD_ushiftRight]
  by_cases hk : k + i < w
  · exact h.bit hk
  · simp [BitVec.getLsbD_of_ge _ _ (show w ≤ k + i by omega)]
theorem sshr_in {v m x : BitVec w} (h : In v m x) (k : Nat) (hw : 0 < w) : In (v.sshiftRight k) (m.sshiftRight k) (x.sshiftRight k) := by
  apply in_of_bits
  intro i hi
  have hm := h.bit (show w - 1 < w by omega)
  simp only [BitVec.getLsbD_sshiftRight, BitVec.msb_eq_getLsbD_last]
  have hni : ¬ (w ≤ i) := by omega
  by_cases hk : k + i < w
  · have b := h.bit hk
    simp only [hk, if_true, hni, decide_false, Bool.not_false, Bool.true_and]; exact b
  · simp only [hk, if_false, hni, decide_false, Bool.not_false, Bool.true_and]; exact hm
theorem meet_in {v1 m1 v2 m2 x : BitVec w} (h1 : In v1 m1 x) (h2 : In v2 m2 x) : (v1 ^^^ v2) &&& ~~~(m1 ||| m2) = 0#w ∧ In ((v1 ||| v2) &&& ~~~(m1 &&& m2)) (m1 &&& m2) x := by
  constructor
  · apply BitVec.eq_of_getLsbD_eq
    intro i hi
    have b1 := h1.bit hi
    have b2 := h2.bit hi
    simp only [BitVec.getLsbD_and, BitVec.getLsbD_not, BitVec.getLsbD_or, BitVec.getLsbD_xor, hi, decide_true, Bool.true_and, BitVec.getLsbD_zero]
    revert b1 b2
    cases x.getLsbD i <;> cases m1.getLsbD i <;> cases m2.getLsbD i <;> cases v1.getLsbD i <;> cases v2.getLsbD i <;> simp
  · apply in_of_bits
    intro i hi
    have b1 := h1.bit hi
    have b2 := h2.bit hi
    simp only [BitVec.getLsbD_and, BitVec.getLsbD_not, BitVec.getLsbD_or, BitVec.getLsbD_xor, hi, decide_true, Bool.true_and]
    revert b1 b2
    cases x.getLsbD i <;> cases m1.getLsbD i <;> cases m2.getLsbD i <;> cases v1.getLsbD i <;> cases v2.getLsbD i <;> simp
theorem in_any (x : BitVec w) : In 0#w (BitVec.allOnes w) x := by
  unfold In; simp
theorem in_of (x : BitVec w) : In x 0#w x := by
  unfold In; simp
end TT
