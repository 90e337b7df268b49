/-
  Plain laws: what a jump teaches, by the document and by the program.
-/
import Derived.Test.YtneejoienmffmaaGreatN14
set_option linter.unusedVariables false
set_option linter.unusedSimpArgs false
set_option maxRecDepth 100000
namespace Go.Proofs.T
open Go Go.Proofs Go.Proofs.SX
theorem lessU {a b : Us} (ha : VUs a) (hb : VUs b) (la : a.lo ≤ a.hi) (lb : b.lo ≤ b.hi) (same : Bool) :
    (lockgateref05_less a b same).2.2 = (scalar_below_uint64 a.lo a.hi b.lo b.hi 0 18446744073709551615 same).2.2 ∧
    ((scalar_below_uint64 a.lo a.hi b.lo b.hi 0 18446744073709551615 same).2.2 = true → (lockgateref05_less a b same).1 = ⟨a.lo, (scalar_below_uint64 a.lo a.hi b.lo b.hi 0 18446744073709551615 same).1⟩ ∧ (lockgateref05_less a b same).2.1 = ⟨(scalar_below_uint64 a.lo a.hi b.lo b.hi 0 18446744073709551615 same).2.1, b.hi⟩) := by
  obtain ⟨a1, a2⟩ := ha
  obtain ⟨b1, b2⟩ := hb
  obtain ⟨al, ah⟩ := a
  obtain ⟨bl, bh⟩ := b
  dsimp only at *
  unfold lockgateref05_less scalar_below_uint64
  cases same
  · simp only [Bool.false_eq_true, if_false]
    by_cases h1 : bh < 1
    · have : bh = 0 := by omega
      subst this
      simp
    · have h1' : ¬ bh = 0 := by omega
      by_cases h2 : 18446744073709551614 < al
      · have : al = 18446744073709551615 := by omega
        subst this
        simp [h1, h1']
      · have h2' : ¬ al = 18446744073709551615 := by omega
        have w1 : IntKind.u64.wrap (bh - 1) = bh - 1 := wrap_u64_id (by omega) (by omega)
        have w2 : IntKind.u64.wrap (al + 1) = al + 1 := wrap_u64_id (by omega) (by omega)
        simp only [h1, h1', h2, h2', if_false, w1, w2]
        by_cases h3 : al ≤ (if bh - 1 < ah then bh - 1 else ah)
        · rw [if_pos h3]
          refine ⟨?_, fun _ => ⟨rfl, rfl⟩⟩
          simp only [decide_eq_decide]
          split at h3 <;> split <;> omega
        · rw [if_neg h3]
          have : ¬ al < bh := by split at h3 <;> omega
          simp [this]
  · simp only [if_true]
    have h1 : ¬ bh < 0 := by omega
    have h2 : ¬ 18446744073709551615 < al := by omega
    have w1 : IntKind.u64.wrap (bh - 0) = bh := by rw [Int.sub_zero]; exact wrap_u64_id (by omega) (by omega)
    have w2 : IntKind.u64.wrap (al + 0) = al := by rw [Int.add_zero]; exact wrap_u64_id (by omega) (by omega)
    simp only [h1, h2, if_false, w1, w2]
    by_cases h3 : al ≤ (if bh < ah then bh else ah)
    · rw [if_pos h3]
      refine ⟨?_, fun _ => ⟨rfl, rfl⟩⟩
      simp only [decide_eq_decide]
      split at h3 <;> split <;> omega
    · rw [if_neg h3]
      have : ¬ al ≤ bh := by split at h3 <;> omega
      simp [this]
theorem lessS {a b : Ss} (ha : VSs a) (hb : VSs b) (la : a.lo ≤ a.hi) (lb : b.lo ≤ b.hi) (same : Bool) :
    (lockgateref05_under a b same).2.2 = (scalar_below_int64 a.lo a.hi b.lo b.hi (-9223372036854775808) 9223372036854775807 same).2.2 ∧
    ((scalar_below_int64 a.lo a.hi b.lo b.hi (-9223372036854775808) 9223372036854775807 same).2.2 = true → (lockgateref05_under a b same).1 = ⟨a.lo, (scalar_below_int64 a.lo a.hi b.lo b.hi (-9223372036854775808) 9223372036854775807 same).1⟩ ∧ (lockgateref05_under a b same).2.1 = ⟨(scalar_below_int64 a.lo a.hi b.lo b.hi (-9223372036854775808) 9223372036854775807 same).2.1, b.hi⟩ ∧
      a.lo ≤ (scalar_below_int64 a.lo a.hi b.lo b.hi (-9223372036854775808) 9223372036854775807 same).1 ∧ (scalar_below_int64 a.lo a.hi b.lo b.hi (-9223372036854775808) 9223372036854775807 same).2.1 ≤ b.hi) := by
  obtain ⟨a1, a2⟩ := ha
  obtain ⟨b1, b2⟩ := hb
  obtain ⟨al, ah⟩ := a
  obtain ⟨bl, bh⟩ := b
  dsimp only at *
  unfold lockgateref05_under scalar_below_int64
  cases same
  · simp only [Bool.false_eq_true, if_false]
    by_cases h1 : bh < -9223372036854775807
    · have : bh = -9223372036854775808 := by omega
      subst this
      simp
    · have h1' : ¬ bh = -9223372036854775808 := by omega
      by_cases h2 : 9223372036854775806 < al
      · have : al = 9223372036854775807 := by omega
        subst this
        simp [h1, h1']
      · have h2' : ¬ al = 9223372036854775807 := by omega
        have w1 : IntKind.i64.wrap (bh - 1) = bh - 1 := wrap_i64_id (by omega) (by omega)
        have w2 : IntKind.i64.wrap (al + 1) = al + 1 := wrap_i64_id (by omega) (by omega)
        simp only [h1, h1', h2, h2', if_false, w1, w2]
        by_cases h3 : al ≤ (if bh - 1 < ah then bh - 1 else ah)
        · rw [if_pos h3]
          refine ⟨?_, fun h => ⟨rfl, rfl, h3, ?_⟩⟩
          · simp only [decide_eq_decide]
            split at h3 <;> split <;> omega
          · have h := of_decide_eq_true h
            split <;> omega
        · rw [if_neg h3]
          have : ¬ al < bh := by split at h3 <;> omega
          simp [this]
  · simp only [if_true]
    have h1 : ¬ bh < -9223372036854775808 := by omega
    have h2 : ¬ 9223372036854775807 < al := by omega
    have w1 : IntKind.i64.wrap (bh - 0) = bh := by rw [Int.sub_zero]; exact wrap_i64_id (by omega) (by omega)
    have w2 : IntKind.i64.wrap (al + 0) = al := by rw [Int.add_zero]; exact wrap_i64_id (by omega) (by omega)
    simp only [h1, h2, if_false, w1, w2]
    by_cases h3 : al ≤ (if bh < ah then bh else ah)
    · rw [if_pos h3]
      refine ⟨?_, fun h => ⟨rfl, rfl, h3, ?_⟩⟩
      · simp only [decide_eq_decide]
        split at h3 <;> split <;> omega
      · have h := of_decide_eq_true h
        split <;> omega
    · rw [if_neg h3]
      have : ¬ al ≤ bh := by split at h3 <;> omega
      simp [this]
theorem rwithout (a : Sc) (n : Int) : lockgateref05_without a n = scalar_without a n := by
  unfold lockgateref05_without scalar_without span_UOf span_SOf
  dsimp only
  generalize IntKind.i64.wrap n = x
  obtain ⟨t, ⟨ul, uh⟩, ⟨sl, sh⟩⟩ := a
  dsimp only
  by_cases h1 : ul = n
  · subst h1
    by_cases h2 : uh = ul
    · subst h2; simp
    · have h2' : ¬ ul = uh := fun h => h2 h.symm
      by_cases h3 : sl = x
      · subst h3
        by_cases h4 : sh = sl
        · subst h4; simp [h2, h2']
        · have h4' : ¬ sl = sh := fun h => h4 h.symm
          simp [h2, h2', h4, h4']
      · have h3' : ¬ x = sl := fun h => h3 h.symm
        by_cases h4 : sh = x
        · subst h4; simp [h2, h2', h3, h3']
        · have h4' : ¬ x = sh := fun h => h4 h.symm
          simp [h2, h2', h3, h3', h4, h4']
  · have h1' : ¬ n = ul := fun h => h1 h.symm
    by_cases h2 : uh = n
    · subst h2
      by_cases h3 : sl = x
      · subst h3
        by_cases h4 : sh = sl
        · subst h4; simp [h1, h1']
        · have h4' : ¬ sl = sh := fun h => h4 h.symm
          simp [h1, h1', h4, h4']
      · have h3' : ¬ x = sl := fun h => h3 h.symm
        by_cases h4 : sh = x
        · subst h4; simp [h1, h1', h3, h3']
        · have h4' : ¬ x = sh := fun h => h4 h.symm
          simp [h1, h1', h3, h3', h4, h4']
    · have h2' : ¬ n = uh := fun h => h2 h.symm
      by_cases h3 : sl = x
      · subst h3
        by_cases h4 : sh = sl
        · subst h4; simp [h1, h1', h2, h2']
        · have h4' : ¬ sl = sh := fun h => h4 h.symm
          simp [h1, h1', h2, h2', h4, h4']
      · have h3' : ¬ x = sl := fun h => h3 h.symm
        by_cases h4 : sh = x
        · subst h4; simp [h1, h1', h2, h2', h3, h3']
        · have h4' : ¬ x = sh := fun h => h4 h.symm
          simp [h1, h1', h2, h2', h3, h3', h4, h4']
end Go.Proofs.T
