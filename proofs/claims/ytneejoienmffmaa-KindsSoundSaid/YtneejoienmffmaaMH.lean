/-
  Plain laws: KindsHolds.
-/
import Derived.Test.YtneejoienmffmaaM5
set_option linter.unusedVariables false
set_option maxRecDepth 100000
namespace Go.Proofs.T
open Go Go.Proofs Go.Proofs.SX
/-! ### A bit at a time -/
theorem bit_eq (x : BitVec 64) {i : Int} (h : 0 ≤ i) : Int.tmod (shr .u64 (x.toNat : Int) i) 2 = if x.getLsbD i.toNat then 1 else 0 := by
  rw [shr_u64]
  rw [Int.tmod_eq_emod_of_nonneg (by omega)]
  have e : (x >>> i.toNat).toNat % 2 = if x.getLsbD i.toNat then 1 else 0 := by
    have h1 : (x >>> i.toNat).getLsbD 0 = x.getLsbD i.toNat := by rw [BitVec.getLsbD_ushiftRight, Nat.add_zero]
    rw [← h1]
    generalize x >>> i.toNat = y
    rw [BitVec.getLsbD, Nat.testBit_zero]
    have := Nat.mod_two_eq_zero_or_one y.toNat
    rcases this with h2 | h2 <;> rw [h2] <;> rfl
  have := Int.natCast_emod (x >>> i.toNat).toNat 2
  rw [show ((2 : Nat) : Int) = 2 from rfl] at this
  rw [← this, e]
  split <;> rfl
def Agree (v m b : BitVec 64) (i : Int) : Prop := ∀ j : Nat, i ≤ j → j < 64 → m.getLsbD j = false → v.getLsbD j = b.getLsbD j
noncomputable instance (v m b : BitVec 64) (i : Int) : Decidable (Agree v m b i) := Classical.propDecidable _
theorem In_L_eq (v m b : BitVec 64) : ∀ (n : Nat) (i : Int), 0 ≤ i → i ≤ 64 → 65 ≤ i + n → lockgateref03_In_L (tb v m) (b.toNat : Int) n i =
    if Agree v m b i then some (.brk 64) else some (.ret false)
  | 0, i, h0, h1, h2 => by omega
  | n + 1, i, h0, h1, h2 => by
    rw [lockgateref03_In_L]
    by_cases h : i < 64
    · have ih := In_L_eq v m b n (i + 1) (by omega) (by omega) (by omega)
      rw [if_pos h, wrap_u64_id (by omega) (by omega), ih]
      have em : (tb v m).m = (m.toNat : Int) := rfl
      have ev : (tb v m).v = (v.toNat : Int) := rfl
      rw [em, ev, bit_eq m h0, bit_eq v h0, bit_eq b h0]
      have step : Agree v m b i ↔ (m.getLsbD i.toNat = false → v.getLsbD i.toNat = b.getLsbD i.toNat) ∧ Agree v m b (i + 1) := by
        constructor
        · intro H
          exact ⟨fun hm => H i.toNat (by omega) (by omega) hm, fun j hj1 hj2 => H j (by omega) hj2⟩
        · rintro ⟨H1, H2⟩ j hj1 hj2 hm
          by_cases hj : (j : Int) = i
          · have : i.toNat = j := by omega
            rw [this] at H1; exact H1 hm
          · exact H2 j (by omega) hj2 hm
      by_cases hA : Agree v m b (i + 1)
      · rw [if_pos hA]
        cases hm : m.getLsbD i.toNat
        · by_cases he : v.getLsbD i.toNat = b.getLsbD i.toNat
          · rw [if_pos (step.2 ⟨fun _ => he, hA⟩), he]; simp
          · rw [if_neg (fun h => he ((step.1 h).1 hm))]
            cases hv : v.getLsbD i.toNat <;> cases hb : b.getLsbD i.toNat <;> rw [hv, hb] at he <;> simp at he ⊢
        · rw [if_pos (step.2 ⟨fun h => (by rw [hm] at h; cases h), hA⟩)]; simp
      · rw [if_neg hA, if_neg (fun h => hA (step.1 h).2)]
        cases hm : m.getLsbD i.toNat
        · cases hv : v.getLsbD i.toNat <;> cases hb : b.getLsbD i.toNat <;> simp
        · simp
    · have : i = 64 := by omega
      subst this
      rw [if_neg (by omega), if_pos]
      intro j hj1 hj2
      omega
theorem ref_In_tb {v m : BitVec 64} (h : v &&& m = 0#64) (b : BitVec 64) : lockgateref03_In (tb v m) (b.toNat : Int) = tnum_In (tb v m) (b.toNat : Int) := by
  unfold lockgateref03_In
  rw [In_L_eq v m b 65 0 (by omega) (by omega) (by omega), In_tb]
  have key : Agree v m b 0 ↔ b &&& ~~~m = v := by
    constructor
    · intro H
      apply BitVec.eq_of_getLsbD_eq
      intro i hi
      have h1 := H i (by omega) hi
      have h2 : (v &&& m).getLsbD i = false := by rw [h]; simp
      rw [BitVec.getLsbD_and] at h2
      rw [BitVec.getLsbD_and, BitVec.getLsbD_not]
      cases hm : m.getLsbD i
      · rw [h1 hm]; simp [hi]
      · rw [hm] at h2; simp at h2; simp [h2]
    · intro H j _ hj hm
      rw [← H, BitVec.getLsbD_and, BitVec.getLsbD_not, hm]
      simp [hj]
  by_cases hk : b &&& ~~~m = v
  · rw [if_pos (key.2 hk), decide_eq_true hk]
  · rw [if_neg (fun h => hk (key.1 h)), decide_eq_false hk]
theorem mayT_tb {v m : BitVec 64} : Go.bits .and .u64 (tb v m).v (tb v m).m = 0 ↔ v &&& m = 0#64 := by
  show Go.bits .and .u64 (v.toNat : Int) (m.toNat : Int) = 0 ↔ _
  rw [and_u64, zero_bv, toNat_inj_int]
theorem ref_In {t : Tn} {b : Int} (ht : VTn t) (h : Go.bits .and .u64 t.v t.m = 0) (h0 : 0 ≤ b) (h1 : b < 18446744073709551616) : lockgateref03_In t b = tnum_In t b := by
  obtain ⟨v, m, rfl⟩ := tb_of ht
  obtain ⟨b, rfl⟩ := exists_bv h0 h1
  exact ref_In_tb (mayT_tb.1 h) b
theorem UIn_eq (u : Us) (b : Int) : lockgateref04_UIn u b = span_UIn u b := rfl
theorem SIn_eq (s : Ss) (b : Int) : lockgateref04_SIn s b = span_SIn s b := rfl
theorem ref5_In {x : Sc} {b : Int} (hx : VSc x) (h : Go.bits .and .u64 x.t.v x.t.m = 0) (h0 : 0 ≤ b) (h1 : b < 18446744073709551616) : lockgateref05_In x b = scalar_In x b := by
  unfold lockgateref05_In scalar_In
  rw [ref_In hx.1 h h0 h1]
  rfl
def VAR (r : AR) : Prop := VSc r.num ∧ (-9223372036854775808 ≤ r.off ∧ r.off < 9223372036854775808)
theorem Holds_eq {r : AR} {b : Vl} {c d e : Int} (hr : VSc r.num) (hm : Go.bits .and .u64 r.num.t.v r.num.t.m = 0) (ho : -1048576 ≤ r.off ∧ r.off ≤ 1048576) (hrng : 0 ≤ r.rng ∧ r.rng ≤ 65535)
    (hb : 0 ≤ b.n ∧ b.n < 18446744073709551616) (hd : 0 ≤ d ∧ d < 18446744073709551616) (hc : 0 ≤ c ∧ c ≤ 65535) : kinds_Holds r b c d e = lockgateref18_Holds r b c d e := by
  have i1 := ref5_In (b := b.n) hr hm hb.1 hb.2
  have i2 := ref5_In (b := d) hr hm hd.1 hd.2
  have i3 := ref5_In (b := IntKind.u64.wrap (b.n - (IntKind.u64.wrap r.off))) hr hm wrapu_nn wrapu_lt
  have p1 : (IntKind.u64.wrap (b.n - (IntKind.u64.wrap r.off)) = d) ↔ (b.n = IntKind.u64.wrap (d + (IntKind.u64.wrap r.off))) := by
    simp only [wrap_u64]; omega
  have p2 : (IntKind.u64.wrap (b.n - (IntKind.u64.wrap r.off)) == 0) = (IntKind.i64.wrap b.n == r.off) := by
    have : (IntKind.u64.wrap (b.n - (IntKind.u64.wrap r.off)) = 0) ↔ (IntKind.i64.wrap b.n = r.off) := by
      simp only [wrap_u64, wrap_i64]; split <;> omega
    rw [Bool.eq_iff_iff, beq_iff_eq, beq_iff_eq]; exact this
  unfold kinds_Holds lockgateref18_Holds
  rw [i1, i2, i3, p2]
  simp only [p1]
  by_cases k0 : r.kind = 0
  · simp [k0]
  by_cases k1 : r.kind = 1
  · simp [k1]
  by_cases k2 : r.kind = 2
  · simp only [k0, k1, k2, if_true, if_false]
    by_cases hz : r.rng ≤ 0
    · simp only [hz, if_true, show ¬ 0 < r.rng by omega, if_false]
      by_cases q : b.kind = 6
      · simp [q]
      · simp [q]
    · simp only [hz, if_false, show 0 < r.rng by omega, if_true]
      by_cases q : b.kind = 6
      · simp [q]
      · simp only [q, if_false]
        (repeat' split) <;> simp_all
  by_cases k3 : r.kind = 3
  · simp [k3]
  by_cases k4 : r.kind = 4
  · simp [k4]
  by_cases k5 : r.kind = 5
  · simp [k5]
  by_cases k6 : r.kind = 6
  · simp [k6]
  by_cases k7 : r.kind = 7
  · simp only [k0, k1, k2, k3, k4, k5, k6, k7, if_true, if_false]
    by_cases q : b.kind = 6
    · simp [q]
    · simp [q]
  by_cases k8 : r.kind = 8
  · simp [k8]
  simp [k0, k1, k2, k3, k4, k5, k6, k7, k8]
theorem works_ok : lockgatelaw18_works = true := by decide +kernel
theorem KindsHolds_ok {a : AR} {b : Vl} {c d e : Int} (ha : VSc a.num) (hb : 0 ≤ b.n ∧ b.n < 18446744073709551616) (hd : 0 ≤ d ∧ d < 18446744073709551616) : lockgatelaw18_KindsHolds a b c d e = true := by
  unfold lockgatelaw18_KindsHolds
  rw [works_ok]
  split
  · rename_i hR
    split
    · rfl
    · split
      · rfl
      · rename_i hc1 hc2
        unfold lockgatelaw18_Right at hR
        split at hR
        · split at hR
          · rename_i hmay
            split at hR
            · split at hR
              · split at hR
                · split at hR
                  · split at hR
                    · split at hR
                      · rw [Holds_eq ha hmay ⟨by assumption, by assumption⟩ ⟨by assumption, by assumption⟩ hb hd ⟨by omega, by omega⟩]
                        simp
                      · cases hR
                    · cases hR
                  · cases hR
                · cases hR
              · cases hR
            · cases hR
          · cases hR
        · cases hR
  · rfl
end Go.Proofs.T
