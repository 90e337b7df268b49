/-
  Plain laws: the document's tnums are the program's.
-/
import Derived.Test.YtneejoienmffmaaGreatN3
set_option linter.unusedVariables false
set_option linter.unusedSimpArgs false
set_option maxRecDepth 100000
namespace Go.Proofs.T
open Go Go.Proofs Go.Proofs.SX
theorem btk (x : BitVec 64) (k : Nat) : Int.tmod (shr .u64 (x.toNat : Int) (k : Int)) 2 = if x.getLsbD k then 1 else 0 := by
  rw [shr_u64, Int.toNat_natCast, tmod_nn' (Int.natCast_nonneg _)]
  have := tbit (x >>> k) 0
  rw [Int.pow_zero, Int.ediv_one, BitVec.getLsbD_ushiftRight, Nat.add_zero] at this
  exact this
theorem or_stepB {y : BitVec 64} {v t : Int} {k : Nat} (hk : k ≤ 63) (hv : v = (y.toNat : Int) % 2 ^ k) (ht : t = if y.getLsbD k then 1 else 0) : Go.bits .or .u64 v (shl .u64 t (k : Int)) = (y.toNat : Int) % 2 ^ (k + 1) := by
  have := or_stepT (T := (y.toNat : Int)) (v := v) (t := t) hk (Int.natCast_nonneg _) hv (by rw [ht, tbit])
  rwa [wrap_u64_id (x := (k : Int)) (by omega) (by omega)] at this
theorem keepY {y : BitVec 64} {k : Nat} (h : y.getLsbD k = false) : (y.toNat : Int) % 2 ^ k = (y.toNat : Int) % 2 ^ (k + 1) := by
  rw [mod2 (Int.natCast_nonneg _), tbit, h]; simp
theorem endY (y : BitVec 64) : (y.toNat : Int) % 2 ^ 64 = (y.toNat : Int) := by
  have := y.isLt
  rw [e64]; omega
theorem mayB {v m : BitVec 64} (h : v &&& m = 0#64) (i : Nat) : (v.getLsbD i && m.getLsbD i) = false := by
  have := congrArg (·.getLsbD i) h
  simpa using this
theorem mayT_tb {v m : BitVec 64} : Go.bits .and .u64 (tb v m).v (tb v m).m = 0 ↔ v &&& m = 0#64 := by
  show Go.bits .and .u64 (v.toNat : Int) (m.toNat : Int) = 0 ↔ _
  rw [and_u64, zero_bv, toNat_inj_int]
/-! ### In -/
def Agree (v m b : BitVec 64) (k : Nat) : Prop := ∀ j : Nat, k ≤ j → j < 64 → m.getLsbD j = false → v.getLsbD j = b.getLsbD j
noncomputable instance (v m b : BitVec 64) (i : Nat) : Decidable (Agree v m b i) := Classical.propDecidable _
theorem Agree.step {v m b : BitVec 64} {k : Nat} (hk : k < 64) : Agree v m b k ↔ (m.getLsbD k = false → v.getLsbD k = b.getLsbD k) ∧ Agree v m b (k + 1) := by
  constructor
  · intro H
    exact ⟨fun hm => H k (Nat.le_refl _) hk hm, fun j h1 h2 => H j (by omega) h2⟩
  · rintro ⟨H1, H2⟩ j h1 h2 hm
    by_cases hj : j = k
    · subst hj; exact H1 hm
    · exact H2 j (by omega) h2 hm
theorem In_loop (v m b : BitVec 64) : ∀ (n k : Nat), k ≤ 64 → n + k = 65 → lockgateref03_In_L (tb v m) (b.toNat : Int) n k = if Agree v m b k then some (.brk 64) else some (.ret false)
  | 0, k, h1, h2 => by omega
  | n + 1, k, h1, h2 => by
    rw [lockgateref03_In_L]
    by_cases h : (k : Int) < 64
    · rw [if_pos h, u64_succ h1, In_loop v m b n (k + 1) (by omega) (by omega), tb_v, tb_m, btk, btk, btk]
      have st := Agree.step (v := v) (m := m) (b := b) (k := k) (by omega)
      by_cases hA : Agree v m b (k + 1)
      · rw [if_pos hA]
        cases hm : m.getLsbD k
        · by_cases he : v.getLsbD k = b.getLsbD k
          · rw [if_pos (st.2 ⟨fun _ => he, hA⟩), he]; simp
          · rw [if_neg (fun h => he ((st.1 h).1 hm))]
            cases hv : v.getLsbD k <;> cases hb : b.getLsbD k <;> rw [hv, hb] at he <;> simp at he ⊢
        · rw [if_pos (st.2 ⟨fun h => (by rw [hm] at h; cases h), hA⟩)]; simp
      · rw [if_neg hA, if_neg (fun h => hA (st.1 h).2)]
        cases hm : m.getLsbD k
        · cases hv : v.getLsbD k <;> cases hb : b.getLsbD k <;> simp
        · simp
    · have : k = 64 := by omega
      subst this
      rw [if_neg h, if_pos (show Agree v m b 64 from fun j h1 h2 => by omega)]; rfl
theorem rIn_tb {v m : BitVec 64} (h : v &&& m = 0#64) (b : BitVec 64) : lockgateref03_In (tb v m) (b.toNat : Int) = tnum_In (tb v m) (b.toNat : Int) := by
  have hl := In_loop v m b 65 0 (by omega) (by omega)
  unfold lockgateref03_In
  have hl' : lockgateref03_In_L (tb v m) (b.toNat : Int) 65 0 = _ := hl
  rw [hl', In_tb]
  have key : Agree v m b 0 ↔ b &&& ~~~m = v := by
    constructor
    · intro H
      apply BitVec.eq_of_getLsbD_eq
      intro i hi
      have h1 := H i (by omega) hi
      have h2 := mayB h i
      rw [BitVec.getLsbD_and, BitVec.getLsbD_not]
      cases hm : m.getLsbD i
      · rw [h1 hm]; simp [hi]
      · rw [hm] at h2; simp at h2; simp [h2]
    · intro H j _ hj hm
      rw [← H, BitVec.getLsbD_and, BitVec.getLsbD_not, hm]
      simp [hj]
  by_cases hk : b &&& ~~~m = v
  · rw [if_pos (key.2 hk), decide_eq_true hk]
  · rw [if_neg (fun h => hk (key.1 h)), decide_eq_false hk]
/-! ### Within -/
def Sub (v m v' m' : BitVec 64) (k : Nat) : Prop := ∀ j : Nat, k ≤ j → j < 64 → m'.getLsbD j = false → m.getLsbD j = false ∧ v.getLsbD j = v'.getLsbD j
noncomputable instance (v m v' m' : BitVec 64) (i : Nat) : Decidable (Sub v m v' m' i) := Classical.propDecidable _
theorem Within_loop (v m v' m' : BitVec 64) : ∀ (n k : Nat), k ≤ 64 → n + k = 65 → lockgateref03_Within_L (tb v m) (tb v' m') n k = if Sub v m v' m' k then some (.brk 64) else some (.ret false)
  | 0, k, h1, h2 => by omega
  | n + 1, k, h1, h2 => by
    rw [lockgateref03_Within_L]
    by_cases h : (k : Int) < 64
    · rw [if_pos h, u64_succ h1, Within_loop v m v' m' n (k + 1) (by omega) (by omega), tb_v, tb_m, tb_v, tb_m, btk, btk, btk, btk]
      have st : Sub v m v' m' k ↔ (m'.getLsbD k = false → m.getLsbD k = false ∧ v.getLsbD k = v'.getLsbD k) ∧ Sub v m v' m' (k + 1) := by
        constructor
        · intro H
          exact ⟨fun hm => H k (Nat.le_refl _) (by omega) hm, fun j h1 h2 => H j (by omega) h2⟩
        · rintro ⟨H1, H2⟩ j h1 h2 hm
          by_cases hj : j = k
          · subst hj; exact H1 hm
          · exact H2 j (by omega) h2 hm
      by_cases hA : Sub v m v' m' (k + 1)
      · rw [if_pos hA]
        by_cases hS : Sub v m v' m' k
        · rw [if_pos hS]
          have h1 := (st.1 hS).1
          cases hm' : m'.getLsbD k
          · rw [(h1 hm').1, (h1 hm').2]; simp
          · simp
        · rw [if_neg hS]
          have h1 : ¬ (m'.getLsbD k = false → m.getLsbD k = false ∧ v.getLsbD k = v'.getLsbD k) := fun h => hS (st.2 ⟨h, hA⟩)
          revert h1
          cases m'.getLsbD k <;> cases m.getLsbD k <;> cases v.getLsbD k <;> cases v'.getLsbD k <;> simp
      · rw [if_neg hA, if_neg (fun h => hA (st.1 h).2)]
        cases m'.getLsbD k <;> cases m.getLsbD k <;> cases v.getLsbD k <;> cases v'.getLsbD k <;> simp
    · have : k = 64 := by omega
      subst this
      rw [if_neg h, if_pos (show Sub v m v' m' 64 from fun j h1 h2 => by omega)]; rfl
theorem rWithin_tb {v m v' m' : BitVec 64} (h' : v' &&& m' = 0#64) : lockgateref03_Within (tb v m) (tb v' m') = tnum_Within (tb v m) (tb v' m') := by
  have hl := Within_loop v m v' m' 65 0 (by omega) (by omega)
  unfold lockgateref03_Within
  have hl' : lockgateref03_Within_L (tb v m) (tb v' m') 65 0 = _ := hl
  rw [hl', Within_tb]
  have key : Sub v m v' m' 0 ↔ m &&& ~~~m' = 0#64 ∧ v &&& ~~~m' = v' := by
    constructor
    · intro H
      constructor
      · apply BitVec.eq_of_getLsbD_eq
        intro i hi
        have h1 := H i (by omega) hi
        rw [BitVec.getLsbD_and, BitVec.getLsbD_not, BitVec.getLsbD_zero]
        cases hm : m'.getLsbD i
        · rw [(h1 hm).1]; simp
        · simp
      · apply BitVec.eq_of_getLsbD_eq
        intro i hi
        have h1 := H i (by omega) hi
        have h2 := mayB h' i
        rw [BitVec.getLsbD_and, BitVec.getLsbD_not]
        cases hm : m'.getLsbD i
        · rw [(h1 hm).2]; simp [hi]
        · rw [hm] at h2; simp at h2; simp [h2]
    · rintro ⟨H1, H2⟩ j _ hj hm
      have b1 := congrArg (·.getLsbD j) H1
      have b2 := congrArg (·.getLsbD j) H2
      simp only [BitVec.getLsbD_and, BitVec.getLsbD_not, hj, hm, decide_true, Bool.true_and, Bool.not_false, Bool.and_true, BitVec.getLsbD_zero] at b1 b2
      exact ⟨b1, b2⟩
  by_cases hk : m &&& ~~~m' = 0#64 ∧ v &&& ~~~m' = v'
  · rw [if_pos (key.2 hk), decide_eq_true hk]
  · rw [if_neg (fun h => hk (key.1 h)), decide_eq_false hk]
/-! ### Meet -/
def Meets (v m v' m' : BitVec 64) (k : Nat) : Prop := ∀ j : Nat, k ≤ j → j < 64 → m.getLsbD j = false → m'.getLsbD j = false → v.getLsbD j = v'.getLsbD j
noncomputable instance (v m v' m' : BitVec 64) (i : Nat) : Decidable (Meets v m v' m' i) := Classical.propDecidable _
theorem Meet_loop (v m v' m' : BitVec 64) : ∀ (n k : Nat), k ≤ 64 → n + k = 65 → lockgateref03_Meet_L (tb v m) (tb v' m') n k (((v ||| v').toNat : Int) % 2 ^ k) (((m &&& m').toNat : Int) % 2 ^ k) =
    if Meets v m v' m' k then some (.brk (64, ((v ||| v').toNat : Int), ((m &&& m').toNat : Int))) else some (.ret (⟨0, 0⟩, false))
  | 0, k, h1, h2 => by omega
  | n + 1, k, h1, h2 => by
    rw [lockgateref03_Meet_L]
    by_cases h : (k : Int) < 64
    · have hk : k ≤ 63 := by omega
      have ih := Meet_loop v m v' m' n (k + 1) (by omega) (by omega)
      rw [if_pos h, u64_succ h1, tb_v, tb_m, tb_v, tb_m, or_u64, btk, btk, btk, btk, btk, or_stepB (y := v ||| v') hk rfl rfl]
      have st : Meets v m v' m' k ↔ (m.getLsbD k = false → m'.getLsbD k = false → v.getLsbD k = v'.getLsbD k) ∧ Meets v m v' m' (k + 1) := by
        constructor
        · intro H
          exact ⟨fun hm => H k (Nat.le_refl _) (by omega) hm, fun j h1 h2 => H j (by omega) h2⟩
        · rintro ⟨H1, H2⟩ j h1 h2 hm
          by_cases hj : j = k
          · subst hj; exact H1 hm
          · exact H2 j (by omega) h2 hm
      have mk : (m &&& m').getLsbD k = (m.getLsbD k && m'.getLsbD k) := BitVec.getLsbD_and
      have yes : (m.getLsbD k = false → m'.getLsbD k = false → v.getLsbD k = v'.getLsbD k) → (if Meets v m v' m' k then some (.brk (64, ((v ||| v').toNat : Int), ((m &&& m').toNat : Int))) else some (.ret (⟨0, 0⟩, false)) : Option (Out (Int × Int × Int) (Tn × Bool))) = if Meets v m v' m' (k + 1) then some (.brk (64, ((v ||| v').toNat : Int), ((m &&& m').toNat : Int))) else some (.ret (⟨0, 0⟩, false)) := fun hh => by
        by_cases hA : Meets v m v' m' (k + 1)
        · rw [if_pos hA, if_pos (st.2 ⟨hh, hA⟩)]
        · rw [if_neg hA, if_neg (fun h => hA (st.1 h).2)]
      cases hm : m.getLsbD k <;> cases hm' : m'.getLsbD k <;> rw [hm, hm'] at mk yes
      · by_cases he : v.getLsbD k = v'.getLsbD k
        · rw [if_pos (by decide), if_pos (by decide), if_pos (by rw [he]), yes (fun _ _ => he), keepY mk]; exact ih
        · have hne : ¬ (if v.getLsbD k = true then (1 : Int) else 0) = if v'.getLsbD k = true then 1 else 0 := by
            revert he
            cases v.getLsbD k <;> cases v'.getLsbD k <;> simp
          rw [if_pos (by decide), if_pos (by decide), if_neg hne, if_neg (fun h => he ((st.1 h).1 hm hm'))]
      · rw [if_pos (by decide), if_neg (by decide), yes (fun _ h => by cases h), keepY mk]; exact ih
      · rw [if_neg (by decide), if_pos (by decide), yes (fun h => by cases h), keepY mk]; exact ih
      · have e1 : Go.bits .or .u64 (((m &&& m').toNat : Int) % 2 ^ k) (shl .u64 1 (k : Int)) = ((m &&& m').toNat : Int) % 2 ^ (k + 1) := or_stepB hk rfl (by rw [mk]; rfl)
        rw [if_neg (by decide), if_neg (by decide), yes (fun h => by cases h), e1]; exact ih
    · have : k = 64 := by omega
      subst this
      rw [if_neg h, if_pos (show Meets v m v' m' 64 from fun j h1 h2 => by omega), endY, endY]; rfl
theorem rMeet_tb {v m v' m' : BitVec 64} (h : v &&& m = 0#64) (h' : v' &&& m' = 0#64) : lockgateref03_Meet (tb v m) (tb v' m') = tnum_Meet (tb v m) (tb v' m') := by
  have hl := Meet_loop v m v' m' 65 0 (by omega) (by omega)
  rw [Int.pow_zero, Int.emod_one, Int.emod_one] at hl
  unfold lockgateref03_Meet
  have hl' : lockgateref03_Meet_L (tb v m) (tb v' m') 65 0 0 0 = _ := hl
  rw [hl', Meet_tb]
  have key : Meets v m v' m' 0 ↔ (v ^^^ v') &&& ~~~(m ||| m') = 0#64 := by
    constructor
    · intro H
      apply BitVec.eq_of_getLsbD_eq
      intro i hi
      have h1 := H i (by omega) hi
      rw [BitVec.getLsbD_and, BitVec.getLsbD_not, BitVec.getLsbD_or, BitVec.getLsbD_xor, BitVec.getLsbD_zero]
      cases hm : m.getLsbD i <;> cases hm' : m'.getLsbD i
      · rw [h1 hm hm']; simp
      all_goals simp
    · intro H j _ hj hm hm'
      have b := congrArg (·.getLsbD j) H
      simp only [BitVec.getLsbD_and, BitVec.getLsbD_not, BitVec.getLsbD_or, BitVec.getLsbD_xor, hj, hm, hm', decide_true, Bool.true_and, Bool.or_false, Bool.not_false, Bool.and_true, BitVec.getLsbD_zero] at b
      revert b
      cases v.getLsbD j <;> cases v'.getLsbD j <;> simp
  have e : (v ||| v') &&& ~~~(m &&& m') = v ||| v' := by
    apply BitVec.eq_of_getLsbD_eq
    intro i hi
    have h1 := mayB h i
    have h2 := mayB h' i
    rw [BitVec.getLsbD_and, BitVec.getLsbD_not, BitVec.getLsbD_or, BitVec.getLsbD_and]
    revert h1 h2
    cases v.getLsbD i <;> cases m.getLsbD i <;> cases v'.getLsbD i <;> cases m'.getLsbD i <;> simp [hi]
  by_cases hk : (v ^^^ v') &&& ~~~(m ||| m') = 0#64
  · rw [if_pos (key.2 hk), if_pos hk, e]; rfl
  · rw [if_neg (fun h => hk (key.1 h)), if_neg hk]; rfl
/-! ### Join -/
theorem Join_loop (v m v' m' M V : BitVec 64) (hM : M = m ||| m' ||| (v ^^^ v')) (hV : V = v &&& ~~~M) : ∀ (n k : Nat), k ≤ 64 → n + k = 65 → lockgateref03_Join_L (tb v m) (tb v' m') n k ((V.toNat : Int) % 2 ^ k) ((M.toNat : Int) % 2 ^ k) =
    some (.brk (64, (V.toNat : Int), (M.toNat : Int)))
  | 0, k, h1, h2 => by omega
  | n + 1, k, h1, h2 => by
    rw [lockgateref03_Join_L]
    by_cases h : (k : Int) < 64
    · have hk : k ≤ 63 := by omega
      have hk64 : decide (k < 64) = true := decide_eq_true (by omega)
      have ih := Join_loop v m v' m' M V hM hV n (k + 1) (by omega) (by omega)
      rw [if_pos h, u64_succ h1, tb_v, tb_m, tb_v, tb_m, btk, btk, btk, btk]
      have bM : M.getLsbD k = (m.getLsbD k || m'.getLsbD k || (v.getLsbD k ^^ v'.getLsbD k)) := by
        rw [hM, BitVec.getLsbD_or, BitVec.getLsbD_or, BitVec.getLsbD_xor]
      have bV : V.getLsbD k = (v.getLsbD k && !M.getLsbD k) := by
        rw [hV, BitVec.getLsbD_and, BitVec.getLsbD_not, hk64, Bool.true_and]
      have set : M.getLsbD k = true → lockgateref03_Join_L (tb v m) (tb v' m') n ((k + 1 : Nat) : Int) ((V.toNat : Int) % 2 ^ k) (Go.bits .or .u64 ((M.toNat : Int) % 2 ^ k) (shl .u64 1 (k : Int))) = some (.brk (64, (V.toNat : Int), (M.toNat : Int))) := fun hb => by
        rw [hb] at bV
        rw [or_stepB (y := M) hk rfl (by rw [hb]; rfl), keepY (y := V) (by rw [bV]; simp)]; exact ih
      cases hm : m.getLsbD k <;> rw [hm] at bM
      · cases hm' : m'.getLsbD k <;> rw [hm'] at bM
        · rw [if_neg (by decide), if_neg (by decide)]
          by_cases he : v.getLsbD k = v'.getLsbD k
          · have hM0 : M.getLsbD k = false := by rw [bM, he]; simp
            rw [if_pos (by rw [he]), or_stepB (y := V) hk rfl (by rw [bV, hM0]; simp), keepY (y := M) hM0]; exact ih
          · have hM1 : M.getLsbD k = true := by
              rw [bM]; revert he
              cases v.getLsbD k <;> cases v'.getLsbD k <;> simp
            have hne : ¬ (if v.getLsbD k = true then (1 : Int) else 0) = if v'.getLsbD k = true then 1 else 0 := by
              revert he
              cases v.getLsbD k <;> cases v'.getLsbD k <;> simp
            rw [if_neg hne]; exact set hM1
        · rw [if_neg (by decide), if_pos (by decide)]
          exact set (by rw [bM]; simp)
      · rw [if_pos (by decide)]
        exact set (by rw [bM]; simp)
    · have : k = 64 := by omega
      subst this
      rw [if_neg h, endY, endY]; rfl
theorem rJoin_tb {v m v' m' : BitVec 64} (h : v &&& m = 0#64) : lockgateref03_Join (tb v m) (tb v' m') = tnum_Join (tb v m) (tb v' m') := by
  have hl := Join_loop v m v' m' _ _ rfl rfl 65 0 (by omega) (by omega)
  rw [Int.pow_zero, Int.emod_one, Int.emod_one] at hl
  unfold lockgateref03_Join
  have hl' : lockgateref03_Join_L (tb v m) (tb v' m') 65 0 0 0 = _ := hl
  rw [hl']
  show tb (v &&& ~~~(m ||| m' ||| (v ^^^ v'))) (m ||| m' ||| (v ^^^ v')) = _
  unfold tnum_Join
  by_cases he : (((tb v m).v == (tb v' m').v) && ((tb v m).m == (tb v' m').m)) = true
  · rw [if_pos he]
    simp only [Bool.and_eq_true, beq_iff_eq] at he
    rw [tb_v, tb_v, tb_m, tb_m, toNat_inj_int, toNat_inj_int] at he
    obtain ⟨rfl, rfl⟩ := he
    have e1 : m ||| m ||| (v ^^^ v) = m := by simp
    have e2 : v &&& ~~~m = v := by
      apply BitVec.eq_of_getLsbD_eq
      intro i hi
      have := mayB h i
      rw [BitVec.getLsbD_and, BitVec.getLsbD_not]
      revert this
      cases v.getLsbD i <;> cases m.getLsbD i <;> simp [hi]
    rw [e1, e2]
  · rw [if_neg he]
    simp only [tb_v, tb_m, or_u64, xor_u64, clear_tb]
end Go.Proofs.T
