/-
  Plain laws: Alu of scalars is sound.
-/
import Derived.Test.YtneejoienmffmaaGreatM8
set_option linter.unusedVariables false
set_option maxRecDepth 100000
namespace Go.Proofs.T
open Go Go.Proofs Go.Proofs.SX
/-! ### Words -/
theorem u32w {x : Int} : IntKind.u32.wrap (x % 4294967296) = IntKind.u32.wrap x := by
  simp only [wrap_u32]; omega
theorem W32 {v : Int} (h : W64 v) : W64 (v % 4294967296) := by unfold W64; omega
theorem bits32 {op : BinOp} (hop : op = .and ∨ op = .or ∨ op = .xor) {v w : Int} (hv : 0 ≤ v ∧ v < 4294967296) (hw : 0 ≤ w ∧ w < 4294967296) :
    IntKind.u64.wrap (Go.bits op .u32 (IntKind.u32.wrap v) (IntKind.u32.wrap w)) = Go.bits op .u64 v w % 4294967296 := by
  obtain ⟨v, rfl⟩ := exists_bv hv.1 (by omega)
  obtain ⟨w, rfl⟩ := exists_bv hw.1 (by omega)
  rw [wrapu32_toNat, wrapu32_toNat]
  have e : ∀ x : BitVec 64, BitVec.ofInt 32 ((x.setWidth 32).toNat : Int) = x.setWidth 32 := fun x => by
    rw [BitVec.ofInt_natCast]; apply BitVec.eq_of_toNat_eq; simp
  have fin : ∀ x : BitVec 64, IntKind.u64.wrap (IntKind.u32.wrap (((x.setWidth 32).toNat : Nat) : Int)) = (x.toNat : Int) % 4294967296 := fun x => by
    rw [wrap_u64, wrap_u32, BitVec.toNat_setWidth]; omega
  rcases hop with rfl | rfl | rfl
  · rw [and_u64]
    unfold Go.bits
    show IntKind.u64.wrap (IntKind.u32.wrap (((BitVec.ofInt 32 ((v.setWidth 32).toNat : Int)) &&& (BitVec.ofInt 32 ((w.setWidth 32).toNat : Int))).toNat : Int)) = _
    rw [e, e, ← BitVec.setWidth_and, fin]
  · rw [or_u64]
    unfold Go.bits
    show IntKind.u64.wrap (IntKind.u32.wrap (((BitVec.ofInt 32 ((v.setWidth 32).toNat : Int)) ||| (BitVec.ofInt 32 ((w.setWidth 32).toNat : Int))).toNat : Int)) = _
    rw [e, e, ← BitVec.setWidth_or, fin]
  · rw [xor_u64]
    unfold Go.bits
    show IntKind.u64.wrap (IntKind.u32.wrap (((BitVec.ofInt 32 ((v.setWidth 32).toNat : Int)) ^^^ (BitVec.ofInt 32 ((w.setWidth 32).toNat : Int))).toNat : Int)) = _
    rw [e, e, ← BitVec.setWidth_xor, fin]
theorem word32 (k : Int) (v w : Int) (hw : W64 w) : word_Alu k false (v % 4294967296) (w % 4294967296) = word_Alu k false v w := by
  unfold word_Alu
  have e : Int.tmod (w % 4294967296) 32 = Int.tmod w 32 := by
    rw [tmod_nn' (by omega), tmod_nn' hw.1]; omega
  simp only [u32w, e, Bool.false_eq_true, if_false]
theorem bW (op : BinOp) (a b : Int) : W64 (Go.bits op .u64 a b) := bits_u64_in op a b
theorem UOf_V {x : Int} (h : W64 x) : VUs (span_UOf x) := ⟨h, h⟩
def WP (p : Int × Bool) : Prop := W64 p.1
theorem ite_WP {c : Prop} [Decidable c] {x y : Int × Bool} (h1 : c → WP x) (h2 : ¬ c → WP y) : WP (if c then x else y) := by
  by_cases h : c
  · rw [if_pos h]; exact h1 h
  · rw [if_neg h]; exact h2 h
theorem WPu (x : Int) (b : Bool) : WP (IntKind.u64.wrap x, b) := ⟨wrapu_nn, wrapu_lt⟩
theorem WPb (op : BinOp) (x y : Int) (b : Bool) : WP (Go.bits op .u64 x y, b) := bits_u64_in op x y
theorem WPl (x y : Int) (b : Bool) : WP (shl .u64 x y, b) := shl_u64_in
theorem WPr {x y : Int} {b : Bool} (h : W64 x) : WP (shr .u64 x y, b) := shr_u64_in h.1 h.2
theorem WPi {x : Int} {b : Bool} (h : W64 x) : WP (x, b) := h
theorem word_W (k : Int) (b : Bool) {v w : Int} (hv : W64 v) (hw : W64 w) : W64 (word_Alu k b v w).1 := by
  show WP (word_Alu k b v w)
  have m := mod_le (x := v) (y := w) hv.1
  unfold word_Alu
  repeat' (refine ite_WP (fun _ => ?_) (fun _ => ?_))
  all_goals first
    | exact WPu _ _
    | exact WPb _ _ _ _
    | exact WPl _ _ _
    | exact WPr hv
    | exact WPi hv
    | exact WPi hw
    | exact WPi ⟨by omega, by omega⟩
    | (refine WPi ?_; rw [tmod_nn' hv.1]; unfold W64 at *; omega)
/-- What is made, by either width. -/
def cb (b : Bool) (c : Sc) : Sc := if b = true then c else scalar_settle c false
def lo (b : Bool) (v : Int) : Int := if b = true then v else v % 4294967296
theorem cb_V {b : Bool} {c : Sc} (h : VSc c) : VSc (cb b c) := by
  unfold cb; split
  · exact h
  · exact settle_V h
theorem cb_in {b : Bool} {c : Sc} {v : Int} (h : VSc c) (hv : W64 v) (hi : Inx c v) : Inx (cb b c) (lo b v) := by
  cases b
  · exact settle_in32 h hv hi.1 hi.2.1
  · exact hi
theorem lo_W {b : Bool} {v : Int} (h : W64 v) : W64 (lo b v) := by
  cases b
  · exact W32 h
  · exact h
theorem lo_W32 {v : Int} (h : W64 v) : 0 ≤ lo false v ∧ lo false v < 4294967296 := by
  show 0 ≤ v % 4294967296 ∧ v % 4294967296 < 4294967296
  omega
theorem word_lo (k : Int) (b : Bool) {v w : Int} (hw : W64 w) : word_Alu k b (lo b v) (lo b w) = word_Alu k b v w := by
  cases b
  · exact word32 k v w hw
  · rfl
def core (k : Int) (b : Bool) (c d P : Sc) : Sc :=
  if (scalar_Is c).2 = true then (if (scalar_Is d).2 = true then scalar_Of (word_Alu k b (scalar_Is c).1 (scalar_Is d).1).1 else scalar_settle P b) else scalar_settle P b
theorem core_in {k : Int} {b : Bool} {c d P : Sc} {v w : Int} (hc : VSc c) (hd : VSc d) (hv : W64 v) (hw : W64 w) (ic : Inx c v) (id : Inx d w) (hS : Inx (scalar_settle P b) (word_Alu k b v w).1) :
    Inx (core k b c d P) (word_Alu k b v w).1 := by
  unfold core
  split
  · rename_i h1
    split
    · rename_i h2
      rw [Is_sound hc hv ic h1, Is_sound hd hw id h2]
      exact Of_in (word_W k b hv hw)
    · exact hS
  · exact hS
theorem core_may {k : Int} {b : Bool} {c d P : Sc} (hP : VSc P) : MayP (core k b c d P) := by
  unfold core
  split
  · split
    · exact Of_may _
    · exact settle_may hP
  · exact settle_may hP
/-- The parts hold the raw number. -/
theorem parts_in {b : Bool} {P : Sc} {r n : Int} (hP : VSc P) (hr : W64 r) (h1 : tnum_In P.t r = true) (h2 : inU P.u r) (h3 : b = true → inS P.s r) (hn : n = lo b r) : Inx (scalar_settle P b) n := by
  subst hn
  cases b
  · exact settle_in32 hP hr h1 h2
  · exact settle_in hP hr ⟨h1, h2, h3 rfl⟩
section
variable {b : Bool} {c d : Sc} {v w : Int}
theorem tAdd_V {a b : Tn} (ha : VTn a) (hb : VTn b) : VTn (tnum_Add a b) := by
  obtain ⟨v, m, rfl⟩ := tb_of ha
  obtain ⟨v', m', rfl⟩ := tb_of hb
  rw [Add_tb]; exact tb_V _ _
theorem tSub_V {a b : Tn} (ha : VTn a) (hb : VTn b) : VTn (tnum_Sub a b) := by
  obtain ⟨v, m, rfl⟩ := tb_of ha
  obtain ⟨v', m', rfl⟩ := tb_of hb
  rw [Sub_tb]; exact tb_V _ _
theorem tAnd_V {a b : Tn} (ha : VTn a) (hb : VTn b) : VTn (tnum_And a b) := by
  obtain ⟨v, m, rfl⟩ := tb_of ha
  obtain ⟨v', m', rfl⟩ := tb_of hb
  rw [And_tb]; exact tb_V _ _
theorem tOr_V {a b : Tn} (ha : VTn a) (hb : VTn b) : VTn (tnum_Or a b) := by
  obtain ⟨v, m, rfl⟩ := tb_of ha
  obtain ⟨v', m', rfl⟩ := tb_of hb
  rw [Or_tb]; exact tb_V _ _
theorem tXor_V {a b : Tn} (ha : VTn a) (hb : VTn b) : VTn (tnum_Xor a b) := by
  obtain ⟨v, m, rfl⟩ := tb_of ha
  obtain ⟨v', m', rfl⟩ := tb_of hb
  rw [Xor_tb]; exact tb_V _ _
theorem clear_V {v m : Int} (hm : W64 m) : VTn (tnum_clear v m) := ⟨bW .andNot v m, hm⟩
theorem tMul_V {a b : Tn} : VTn (tnum_Mul a b) := by
  unfold tnum_Mul
  split
  · unfold tnum_Add
    exact clear_V (bW _ _ _)
  · rename_i r h
    exfalso
    have : ∀ (n : Nat) (v0 v1 v2 v3 v4 v5 : Int) (r : Tn), tnum_Mul_L a b n v0 v1 v2 v3 v4 v5 ≠ some (.ret r) := by
      intro n
      induction n with
      | zero => intro v0 v1 v2 v3 v4 v5 r h; rw [tnum_Mul_L] at h; cases h
      | succ n ih =>
        intro v0 v1 v2 v3 v4 v5 r h
        rw [tnum_Mul_L] at h
        (repeat' split at h) <;> first | cases h | exact ih _ _ _ _ _ _ _ h
    exact this _ _ _ _ _ _ _ _ h
  · decide
theorem uAdd_V {a b : Us} : VUs (span_UAdd a b) := by
  unfold span_UAdd; split
  · decide
  · exact ⟨⟨wrapu_nn, wrapu_lt⟩, wrapu_nn, wrapu_lt⟩
theorem uSub_V {a b : Us} : VUs (span_USub a b) := by
  unfold span_USub; split
  · decide
  · exact ⟨⟨wrapu_nn, wrapu_lt⟩, wrapu_nn, wrapu_lt⟩
theorem uMul_V {a b : Us} : VUs (span_UMul a b) := by
  unfold span_UMul; split
  · exact ⟨⟨wrapu_nn, wrapu_lt⟩, wrapu_nn, wrapu_lt⟩
  · decide
theorem uDiv_V {a b : Us} (ha : VUs a) : VUs (span_UDiv a b) := by
  have z : W64 0 := by unfold W64; omega
  unfold span_UDiv; split
  · split
    · exact ⟨z, ha.2⟩
    · exact ⟨⟨wrapu_nn, wrapu_lt⟩, wrapu_nn, wrapu_lt⟩
  · exact ⟨z, ha.2⟩
theorem uMod_V {a b : Us} (ha : VUs a) (hb : VUs b) : VUs (span_UMod a b) := by
  have z : W64 0 := by unfold W64; omega
  unfold span_UMod; split
  · split
    · exact ⟨z, ha.2⟩
    · rename_i hz
      split
      · exact ha
      · split
        · have : W64 (Int.tmod a.lo b.lo) := by
            have h1 := ha.1; have h2 := hb.1
            rw [tmod_nn' h1.1]
            have := mod_le (x := a.lo) (y := b.lo) h1.1 (by omega)
            unfold W64; omega
          exact ⟨this, this⟩
        · exact ⟨z, wrapu_nn, wrapu_lt⟩
  · exact ⟨z, ha.2⟩
theorem below_W (x : Int) : W64 (span_below x) := ⟨wrapu_nn, wrapu_lt⟩
theorem ite_W {p : Prop} [Decidable p] {x y : Int} (hx : W64 x) (hy : W64 y) : W64 (if p then x else y) := by split <;> assumption
theorem uOr_V {a b : Us} (ha : VUs a) (hb : VUs b) : VUs (span_UOr a b) := by
  unfold span_UOr; split
  · split
    · exact UOf_V (bW _ _ _)
    · exact ⟨ite_W hb.1 ha.1, below_W _⟩
  · exact ⟨ite_W hb.1 ha.1, below_W _⟩
theorem uAnd_V {a b : Us} (ha : VUs a) (hb : VUs b) : VUs (span_UAnd a b) := by
  have z : W64 0 := by unfold W64; omega
  unfold span_UAnd; split
  · split
    · exact UOf_V (bW _ _ _)
    · exact ⟨z, ite_W hb.2 ha.2⟩
  · exact ⟨z, ite_W hb.2 ha.2⟩
theorem ends_V {x y : Int} {p q : Bool} (hx : -9223372036854775808 ≤ x ∧ x < 9223372036854775808) (hy : -9223372036854775808 ≤ y ∧ y < 9223372036854775808) : VSs (span_ends x p y q) := by
  unfold span_ends; split
  · split
    · exact ⟨hx, hy⟩
    · decide
  · decide
theorem sAdd_V {a b : Ss} : VSs (span_SAdd a b) := ends_V wraps_in wraps_in
theorem sSub_V {a b : Ss} : VSs (span_SSub a b) := ends_V wraps_in wraps_in
theorem tAdd_in {a b : Tn} {x y : Int} (ha : VTn a) (hb : VTn b) (hx : W64 x) (hy : W64 y) (h1 : tnum_In a x = true) (h2 : tnum_In b y = true) : tnum_In (tnum_Add a b) (IntKind.u64.wrap (x + y)) = true := by
  obtain ⟨v, m, rfl⟩ := tb_of ha
  obtain ⟨v', m', rfl⟩ := tb_of hb
  obtain ⟨x, rfl⟩ := exists_bv hx.1 hx.2
  obtain ⟨y, rfl⟩ := exists_bv hy.1 hy.2
  rw [Add_tb, add_u64, in_tb]
  exact TT.add_in (in_tb.1 h1) (in_tb.1 h2)
theorem tSub_in {a b : Tn} {x y : Int} (ha : VTn a) (hb : VTn b) (hx : W64 x) (hy : W64 y) (h1 : tnum_In a x = true) (h2 : tnum_In b y = true) : tnum_In (tnum_Sub a b) (IntKind.u64.wrap (x - y)) = true := by
  obtain ⟨v, m, rfl⟩ := tb_of ha
  obtain ⟨v', m', rfl⟩ := tb_of hb
  obtain ⟨x, rfl⟩ := exists_bv hx.1 hx.2
  obtain ⟨y, rfl⟩ := exists_bv hy.1 hy.2
  rw [Sub_tb, sub_u64, in_tb]
  exact TT.sub_in (in_tb.1 h1) (in_tb.1 h2)
theorem tAnd_in {a b : Tn} {x y : Int} (ha : VTn a) (hb : VTn b) (hx : W64 x) (hy : W64 y) (h1 : tnum_In a x = true) (h2 : tnum_In b y = true) : tnum_In (tnum_And a b) (Go.bits .and .u64 x y) = true := by
  obtain ⟨v, m, rfl⟩ := tb_of ha
  obtain ⟨v', m', rfl⟩ := tb_of hb
  obtain ⟨x, rfl⟩ := exists_bv hx.1 hx.2
  obtain ⟨y, rfl⟩ := exists_bv hy.1 hy.2
  rw [And_tb, and_u64, in_tb]
  exact TT.and_in (in_tb.1 h1) (in_tb.1 h2)
theorem tOr_in {a b : Tn} {x y : Int} (ha : VTn a) (hb : VTn b) (hx : W64 x) (hy : W64 y) (h1 : tnum_In a x = true) (h2 : tnum_In b y = true) : tnum_In (tnum_Or a b) (Go.bits .or .u64 x y) = true := by
  obtain ⟨v, m, rfl⟩ := tb_of ha
  obtain ⟨v', m', rfl⟩ := tb_of hb
  obtain ⟨x, rfl⟩ := exists_bv hx.1 hx.2
  obtain ⟨y, rfl⟩ := exists_bv hy.1 hy.2
  rw [Or_tb, or_u64, in_tb]
  exact TT.or_in (in_tb.1 h1) (in_tb.1 h2)
theorem tXor_in {a b : Tn} {x y : Int} (ha : VTn a) (hb : VTn b) (hx : W64 x) (hy : W64 y) (h1 : tnum_In a x = true) (h2 : tnum_In b y = true) : tnum_In (tnum_Xor a b) (Go.bits .xor .u64 x y) = true := by
  obtain ⟨v, m, rfl⟩ := tb_of ha
  obtain ⟨v', m', rfl⟩ := tb_of hb
  obtain ⟨x, rfl⟩ := exists_bv hx.1 hx.2
  obtain ⟨y, rfl⟩ := exists_bv hy.1 hy.2
  rw [Xor_tb, xor_u64, in_tb]
  exact TT.xor_in (in_tb.1 h1) (in_tb.1 h2)
theorem tAny_in {x : Int} (hx : W64 x) : tnum_In scalar_Any.t x = true := (Any_in hx).1
end
/-! ### The plain operations -/
def PA (k : Int) (c d : Sc) : Sc :=
  if k = 0 then ⟨tnum_Add c.t d.t, span_UAdd c.u d.u, span_SAdd c.s d.s⟩ else
  if k = 1 then ⟨tnum_Sub c.t d.t, span_USub c.u d.u, span_SSub c.s d.s⟩ else
  if k = 2 then ⟨tnum_Mul c.t d.t, span_UMul c.u d.u, scalar_Any.s⟩ else
  if k = 3 then ⟨scalar_Any.t, span_UDiv c.u d.u, scalar_Any.s⟩ else
  if k = 9 then ⟨scalar_Any.t, span_UMod c.u d.u, scalar_Any.s⟩ else
  if k = 4 then ⟨tnum_Or c.t d.t, span_UOr c.u d.u, scalar_Any.s⟩ else
  if k = 5 then ⟨tnum_And c.t d.t, span_UAnd c.u d.u, scalar_Any.s⟩ else
  ⟨tnum_Xor c.t d.t, scalar_Any.u, scalar_Any.s⟩
def raw (k v w : Int) : Int :=
  if k = 0 then IntKind.u64.wrap (v + w) else
  if k = 1 then IntKind.u64.wrap (v - w) else
  if k = 2 then IntKind.u64.wrap (v * w) else
  if k = 3 then divZ v w else
  if k = 9 then modZ v w else
  if k = 4 then Go.bits .or .u64 v w else
  if k = 5 then Go.bits .and .u64 v w else
  Go.bits .xor .u64 v w
def plain (k : Int) : Prop := k = 0 ∨ k = 1 ∨ k = 2 ∨ k = 3 ∨ k = 9 ∨ k = 4 ∨ k = 5 ∨ k = 10
theorem divZ_W {v w : Int} (hv : W64 v) (hw : W64 w) : W64 (divZ v w) := by
  have := div_le (x := v) (y := w) hv.1 hw.1
  unfold divZ W64 at *; split <;> omega
theorem modZ_W {v w : Int} (hv : W64 v) (hw : W64 w) : W64 (modZ v w) := by
  unfold modZ
  split
  · exact hv
  · have := mod_le (x := v) (y := w) hv.1 (by unfold W64 at *; omega)
    unfold W64 at *; omega
theorem raw_W {k v w : Int} (hv : W64 v) (hw : W64 w) : W64 (raw k v w) := by
  unfold raw
  repeat' split
  all_goals first
    | exact ⟨wrapu_nn, wrapu_lt⟩
    | exact bits_u64_in _ _ _
    | exact divZ_W hv hw
    | exact modZ_W hv hw
theorem PA_V {k : Int} {c d : Sc} (hk : plain k) (hc : VSc c) (hd : VSc d) : VSc (PA k c d) := by
  have sa : VSs scalar_Any.s := by decide
  have ua : VUs scalar_Any.u := by decide
  have ta : VTn scalar_Any.t := by decide
  rcases hk with rfl | rfl | rfl | rfl | rfl | rfl | rfl | rfl
  · exact ⟨tAdd_V hc.1 hd.1, uAdd_V, sAdd_V⟩
  · exact ⟨tSub_V hc.1 hd.1, uSub_V, sSub_V⟩
  · exact ⟨tMul_V, uMul_V, sa⟩
  · exact ⟨ta, uDiv_V hc.2.1, sa⟩
  · exact ⟨ta, uMod_V hc.2.1 hd.2.1, sa⟩
  · exact ⟨tOr_V hc.1 hd.1, uOr_V hc.2.1 hd.2.1, sa⟩
  · exact ⟨tAnd_V hc.1 hd.1, uAnd_V hc.2.1 hd.2.1, sa⟩
  · exact ⟨tXor_V hc.1 hd.1, ua, sa⟩
theorem PA_in {k : Int} {c d : Sc} {v w : Int} (hk : plain k) (hc : VSc c) (hd : VSc d) (hv : W64 v) (hw : W64 w) (ic : Inx c v) (id : Inx d w) : Inx (PA k c d) (raw k v w) := by
  have hr := raw_W (k := k) hv hw
  rcases hk with rfl | rfl | rfl | rfl | rfl | rfl | rfl | rfl
  · exact ⟨tAdd_in hc.1 hd.1 hv hw ic.1 id.1, UAdd_sound hc.2.1 hd.2.1 ic.2.1 id.2.1, SAdd_sound hc.2.2 hd.2.2 ic.2.2 id.2.2⟩
  · exact ⟨tSub_in hc.1 hd.1 hv hw ic.1 id.1, USub_sound hc.2.1 hd.2.1 ic.2.1 id.2.1, SSub_sound hc.2.2 hd.2.2 ic.2.2 id.2.2⟩
  · exact ⟨Mul_sound hc.1 hd.1 hv.1 hv.2 hw.1 hw.2 ic.1 id.1, UMul_sound hc.2.1 hd.2.1 ic.2.1 id.2.1, SAll_in _⟩
  · exact ⟨tAny_in hr, UDiv_sound hc.2.1 hd.2.1 ic.2.1 id.2.1, SAll_in _⟩
  · exact ⟨tAny_in hr, UMod_sound hc.2.1 hd.2.1 ic.2.1 id.2.1, SAll_in _⟩
  · exact ⟨tOr_in hc.1 hd.1 hv hw ic.1 id.1, UOr_sound hc.2.1 hd.2.1 ic.2.1 id.2.1, SAll_in _⟩
  · exact ⟨tAnd_in hc.1 hd.1 hv hw ic.1 id.1, UAnd_sound hc.2.1 hd.2.1 ic.2.1 id.2.1, SAll_in _⟩
  · exact ⟨tXor_in hc.1 hd.1 hv hw ic.1 id.1, UAll_in hr, SAll_in _⟩
theorem divZ_word {v w : Int} (hv : W64 v) (hw : W64 w) : (if w = 0 then ((0 : Int), true) else ((IntKind.u64.wrap (Int.tdiv v w)), true)).1 = divZ v w := by
  have := div_le (x := v) (y := w) hv.1 hw.1
  unfold divZ
  split
  · rfl
  · show IntKind.u64.wrap (Int.tdiv v w) = _
    rw [tdiv_nn hv.1, wrap_u64_id (by omega) (by unfold W64 at *; omega)]
theorem raw_true {k v w : Int} (hk : plain k) (hv : W64 v) (hw : W64 w) : (word_Alu k true v w).1 = raw k v w := by
  rcases hk with rfl | rfl | rfl | rfl | rfl | rfl | rfl | rfl
  · rfl
  · rfl
  · rfl
  · exact divZ_word hv hw
  · show (if w = 0 then (v, true) else ((Int.tmod v w), true)).1 = modZ v w
    unfold modZ
    split
    · rfl
    · exact tmod_nn' hv.1
  · rfl
  · rfl
  · rfl
theorem u32_id {v : Int} (h : 0 ≤ v ∧ v < 4294967296) : IntKind.u32.wrap v = v := by rw [wrap_u32]; omega
theorem raw_false {k v w : Int} (hk : plain k) (hv : 0 ≤ v ∧ v < 4294967296) (hw : 0 ≤ w ∧ w < 4294967296) : (word_Alu k false v w).1 = raw k v w % 4294967296 := by
  rcases hk with rfl | rfl | rfl | rfl | rfl | rfl | rfl | rfl
  · show IntKind.u64.wrap (IntKind.u32.wrap ((IntKind.u32.wrap v) + (IntKind.u32.wrap w))) = IntKind.u64.wrap (v + w) % 4294967296
    simp only [wrap_u64, wrap_u32]; omega
  · show IntKind.u64.wrap (IntKind.u32.wrap ((IntKind.u32.wrap v) - (IntKind.u32.wrap w))) = IntKind.u64.wrap (v - w) % 4294967296
    simp only [wrap_u64, wrap_u32]; omega
  · show IntKind.u64.wrap (IntKind.u32.wrap ((IntKind.u32.wrap v) * (IntKind.u32.wrap w))) = IntKind.u64.wrap (v * w) % 4294967296
    rw [u32_id hv, u32_id hw]
    simp only [wrap_u64, wrap_u32]
    generalize v * w = p
    omega
  · show (if (IntKind.u32.wrap w) = 0 then ((0 : Int), true) else ((IntKind.u64.wrap (IntKind.u32.wrap (Int.tdiv (IntKind.u32.wrap v) (IntKind.u32.wrap w)))), true)).1 = divZ v w % 4294967296
    rw [u32_id hv, u32_id hw]
    have := div_le (x := v) (y := w) hv.1 hw.1
    unfold divZ
    split
    · rfl
    · show IntKind.u64.wrap (IntKind.u32.wrap (Int.tdiv v w)) = _
      rw [tdiv_nn hv.1]
      generalize v / w = p at *
      simp only [wrap_u64, wrap_u32]; omega
  · show (if (IntKind.u32.wrap w) = 0 then ((IntKind.u64.wrap (IntKind.u32.wrap v)), true) else ((IntKind.u64.wrap (Int.tmod (IntKind.u32.wrap v) (IntKind.u32.wrap w))), true)).1 = modZ v w % 4294967296
    rw [u32_id hv, u32_id hw]
    unfold modZ
    split
    · show IntKind.u64.wrap v = _
      simp only [wrap_u64]; omega
    · rename_i hz
      have := mod_le (x := v) (y := w) hv.1 (by omega)
      show IntKind.u64.wrap (Int.tmod v w) = _
      rw [tmod_nn' hv.1]
      generalize v % w = p at *
      simp only [wrap_u64]; omega
  · exact bits32 (.inr (.inl rfl)) hv hw
  · exact bits32 (.inl rfl) hv hw
  · exact bits32 (.inr (.inr rfl)) hv hw
theorem plain_in {k : Int} {b : Bool} {c d : Sc} {v w : Int} (hk : plain k) (hc : VSc c) (hd : VSc d) (hv : W64 v) (hw : W64 w) (ic : Inx c v) (id : Inx d w) :
    Inx (core k b (cb b c) (cb b d) (PA k (cb b c) (cb b d))) (word_Alu k b v w).1 := by
  have hc' := cb_V (b := b) hc; have hd' := cb_V (b := b) hd
  have ic' := cb_in (b := b) hc hv ic; have id' := cb_in (b := b) hd hw id
  have hv' := lo_W (b := b) hv; have hw' := lo_W (b := b) hw
  rw [← word_lo k b (v := v) hw]
  refine core_in hc' hd' hv' hw' ic' id' ?_
  have h := PA_in hk hc' hd' hv' hw' ic' id'
  refine parts_in (PA_V hk hc' hd') (raw_W (k := k) hv' hw') h.1 h.2.1 (fun _ => h.2.2) ?_
  cases b
  · exact raw_false hk (lo_W32 hv) (lo_W32 hw)
  · exact raw_true hk hv hw
/-! ### Shifts -/
def shcore (k : Int) (b : Bool) (c d : Sc) : Sc :=
  if (scalar_Is c).2 = true then (if (scalar_Is d).2 = true then scalar_Of (word_Alu k b (scalar_Is c).1 (scalar_Is d).1).1 else scalar_settle scalar_Any b)
  else if (scalar_Is d).2 = true then scalar_settle (scalar_shift k b c (IntKind.i64.wrap (Int.tmod (scalar_Is d).1 (if b = true then 64 else 32)))) b
  else scalar_settle scalar_Any b
theorem small_shift {n m : Int} (hn : W64 n) (hm : 0 < m) (hm2 : m ≤ 64) : 0 ≤ Int.tmod n m ∧ Int.tmod n m ≤ 63 ∧ IntKind.i64.wrap (Int.tmod n m) = Int.tmod n m := by
  have := tmod_nn (x := n) (n := m) hn.1 hm
  refine ⟨this.1, by omega, wrap_i64_id (by omega) (by omega)⟩
theorem and63_id {k : Int} (h0 : 0 ≤ k) (h1 : k ≤ 63) : Go.bits .and .i64 k 63 = k := by
  unfold Go.bits
  show IntKind.i64.wrap (((BitVec.ofInt 64 k) &&& (BitVec.ofInt 64 63)).toNat : Int) = k
  have hk : (BitVec.ofInt 64 k).toNat = k.toNat := by rw [BitVec.toNat_ofInt]; omega
  have h63 : (BitVec.ofInt 64 63).toNat = 2 ^ 6 - 1 := by decide
  rw [BitVec.toNat_and, hk, h63, Nat.and_two_pow_sub_one_eq_mod]
  rw [wrap_i64_id (by omega) (by omega)]
  omega
theorem tmod64_id {k : Int} (h0 : 0 ≤ k) (h1 : k ≤ 63) : Int.tmod (IntKind.u64.wrap k) 64 = k := by
  rw [wrap_u64_id h0 (by omega), tmod_nn' h0]; omega
theorem tmod32_id {k : Int} (h0 : 0 ≤ k) (h1 : k ≤ 31) : Int.tmod (IntKind.u64.wrap k) 32 = k := by
  rw [wrap_u64_id h0 (by omega), tmod_nn' h0]; omega
theorem any_in {b : Bool} {r n : Int} (hr : W64 r) (hn : n = lo b r) : Inx (scalar_settle scalar_Any b) n :=
  parts_in Any_V hr (Any_in hr).1 (Any_in hr).2.1 (fun _ => (Any_in hr).2.2) hn
theorem uLsh_V {a : Us} {n : Int} : VUs (span_ULsh a n) := by
  unfold span_ULsh; split
  · exact ⟨shl_u64_in, shl_u64_in⟩
  · decide
theorem uRsh_V {a : Us} {n : Int} (ha : VUs a) : VUs (span_URsh a n) := ⟨shr_u64_in ha.1.1 ha.1.2, shr_u64_in ha.2.1 ha.2.2⟩
theorem sArsh_V {a : Ss} {n : Int} (ha : VSs a) : VSs (span_SArsh a n) := by
  have hk := and63 n
  unfold span_SArsh VSs
  simp only [shrs_int hk.1 hk.2]
  exact ⟨sdiv_in ha.1, sdiv_in ha.2⟩
theorem tLsh_V {a : Tn} {n : Int} : VTn (tnum_Lsh a n) := ⟨shl_u64_in, shl_u64_in⟩
theorem tRsh_V {a : Tn} {n : Int} (ha : VTn a) : VTn (tnum_Rsh a n) := ⟨shr_u64_in ha.1.1 ha.1.2, shr_u64_in ha.2.1 ha.2.2⟩
theorem tArsh_V {a : Tn} {n m : Int} : VTn (tnum_Arsh a n m) := by
  unfold tnum_Arsh; split
  · exact ⟨⟨wrapu_nn, wrapu_lt⟩, wrapu_nn, wrapu_lt⟩
  · split
    · exact ⟨⟨wrapu_nn, wrapu_lt⟩, wrapu_nn, wrapu_lt⟩
    · decide
theorem shift_V {k : Int} {b : Bool} {c : Sc} {n : Int} (hc : VSc c) : VSc (scalar_shift k b c n) := by
  have sa : VSs scalar_Any.s := by decide
  have ua : VUs scalar_Any.u := by decide
  unfold scalar_shift
  split
  · exact ⟨tLsh_V, uLsh_V, sa⟩
  · split
    · exact ⟨tRsh_V hc.1, uRsh_V hc.2.1, sa⟩
    · split
      · exact ⟨tArsh_V, ua, sArsh_V hc.2.2⟩
      · split
        · exact ⟨tArsh_V, uRsh_V hc.2.1, sa⟩
        · exact ⟨tArsh_V, ua, sa⟩
theorem tLsh_in {a : Tn} {x n : Int} (ha : VTn a) (hx : W64 x) (h : tnum_In a x = true) (h0 : 0 ≤ n) (h1 : n ≤ 63) : tnum_In (tnum_Lsh a n) (shl .u64 x n) = true := by
  obtain ⟨v, m, rfl⟩ := tb_of ha
  obtain ⟨x, rfl⟩ := exists_bv hx.1 hx.2
  rw [Lsh_tb, tmod64_id h0 h1, shl_u64, in_tb]
  exact TT.shl_in (in_tb.1 h) _
theorem tRsh_in {a : Tn} {x n : Int} (ha : VTn a) (hx : W64 x) (h : tnum_In a x = true) (h0 : 0 ≤ n) (h1 : n ≤ 63) : tnum_In (tnum_Rsh a n) (shr .u64 x n) = true := by
  obtain ⟨v, m, rfl⟩ := tb_of ha
  obtain ⟨x, rfl⟩ := exists_bv hx.1 hx.2
  rw [Rsh_tb, tmod64_id h0 h1, shr_u64, in_tb]
  exact TT.shr_in (in_tb.1 h) _
theorem tArsh64_in {a : Tn} {x n : Int} (ha : VTn a) (hx : W64 x) (h : tnum_In a x = true) (h0 : 0 ≤ n) (h1 : n ≤ 63) : tnum_In (tnum_Arsh a n 64) (IntKind.u64.wrap (shr .i64 (IntKind.i64.wrap x) n)) = true := by
  obtain ⟨v, m, rfl⟩ := tb_of ha
  obtain ⟨x, rfl⟩ := exists_bv hx.1 hx.2
  rw [Arsh64_tb, tmod64_id h0 h1, sshr_u64 x (by omega), in_tb]
  exact TT.sshr_in (in_tb.1 h) _ (by decide)
theorem tArsh32_in {a : Tn} {x n : Int} (ha : VTn a) (hx : W64 x) (h : tnum_In a x = true) (h0 : 0 ≤ n) (h1 : n ≤ 31) : tnum_In (tnum_Arsh a n 32) (IntKind.u64.wrap (IntKind.u32.wrap (shr .i32 (IntKind.i32.wrap (IntKind.u32.wrap x)) n))) = true := by
  obtain ⟨v, m, rfl⟩ := tb_of ha
  obtain ⟨x, rfl⟩ := exists_bv hx.1 hx.2
  rw [Arsh32_tb, tmod32_id h0 h1, sshr_u32 x (by omega), in_tb]
  exact in64 (TT.sshr_in (in32 (in_tb.1 h)) _ (by decide))
theorem lo_id {b : Bool} {r : Int} (h0 : 0 ≤ r) (h1 : b = false → r < 4294967296) : lo b r = r := by
  cases b
  · show r % 4294967296 = r
    have := h1 rfl; omega
  · rfl
theorem pdiv {x k : Int} (h : 0 ≤ x) : 0 ≤ x / 2 ^ k.toNat ∧ x / 2 ^ k.toNat ≤ x :=
  div_le h (Int.pow_nonneg (by decide))
theorem w6 {b : Bool} {v w : Int} (hv : W64 (v)) (hlt : b = false → v < 4294967296 ∧ w < 4294967296) (hw : W64 w) : (word_Alu 6 b v w).1 = lo b (shl .u64 v (Int.tmod w (if b = true then 64 else 32))) := by
  cases b
  · have h := hlt rfl
    have hs := small_shift (m := 32) hw (by decide) (by decide)
    show IntKind.u64.wrap (shl .u32 (IntKind.u32.wrap v) (Int.tmod (IntKind.u32.wrap w) 32)) = shl .u64 v (Int.tmod w 32) % 4294967296
    rw [u32_id ⟨hv.1, h.1⟩, u32_id ⟨hw.1, h.2⟩, shl_int hs.1 hs.2.1]
    have t := tmod_nn (x := w) (n := 32) hw.1 (by decide)
    unfold shl
    have hb : IntKind.bits .u32 = 32 := rfl
    rw [hb, Nat.min_eq_left (by omega), wrap_u32, wrap_u64]
    generalize v * 2 ^ (Int.tmod w 32).toNat = p
    omega
  · rfl
theorem w7 {b : Bool} {v w : Int} (hv : W64 v) (hlt : b = false → v < 4294967296 ∧ w < 4294967296) (hw : W64 w) : (word_Alu 7 b v w).1 = lo b (shr .u64 v (Int.tmod w (if b = true then 64 else 32))) := by
  cases b
  · have h := hlt rfl
    have hs := small_shift (m := 32) hw (by decide) (by decide)
    show IntKind.u64.wrap (shr .u32 (IntKind.u32.wrap v) (Int.tmod (IntKind.u32.wrap w) 32)) = shr .u64 v (Int.tmod w 32) % 4294967296
    rw [u32_id ⟨hv.1, h.1⟩, u32_id ⟨hw.1, h.2⟩, shr_int hs.1 hs.2.1]
    have t := tmod_nn (x := w) (n := 32) hw.1 (by decide)
    unfold shr
    have hb : IntKind.bits .u32 = 32 := rfl
    have hp := pdiv (x := v) (k := Int.tmod w 32) hv.1
    rw [hb, Nat.min_eq_left (by omega), wrap_u64]
    omega
  · rfl
theorem shift_in {k : Int} {b : Bool} {c : Sc} {v w : Int} (hk : k = 6 ∨ k = 7 ∨ k = 12) (hc : VSc c) (hv : W64 v) (hw : W64 w) (hlt : b = false → v < 4294967296 ∧ w < 4294967296) (ic : Inx c v) :
    Inx (scalar_settle (scalar_shift k b c (IntKind.i64.wrap (Int.tmod w (if b = true then 64 else 32)))) b) (word_Alu k b v w).1 := by
  have hs := small_shift (m := if b = true then 64 else 32) hw (by cases b <;> decide) (by cases b <;> decide)
  have ht := tmod_nn (x := w) (n := if b = true then 64 else 32) hw.1 (by cases b <;> decide)
  rw [hs.2.2]
  have hV : VSc (scalar_shift k b c (Int.tmod w (if b = true then 64 else 32))) := shift_V hc
  rcases hk with rfl | rfl | rfl
  · refine parts_in hV (r := shl .u64 v (Int.tmod w (if b = true then 64 else 32))) shl_u64_in ?_ ?_ (fun _ => SAll_in _) (w6 hv hlt hw)
    · exact tLsh_in hc.1 hv ic.1 hs.1 hs.2.1
    · have := ULsh_sound (n := Int.tmod w (if b = true then 64 else 32)) hc.2.1 ic.2.1
      rwa [and63_id hs.1 hs.2.1] at this
  · refine parts_in hV (r := shr .u64 v (Int.tmod w (if b = true then 64 else 32))) (shr_u64_in hv.1 hv.2) ?_ ?_ (fun _ => SAll_in _) (w7 hv hlt hw)
    · exact tRsh_in hc.1 hv ic.1 hs.1 hs.2.1
    · have := URsh_sound (n := Int.tmod w (if b = true then 64 else 32)) hc.2.1 ic.2.1
      rwa [and63_id hs.1 hs.2.1] at this
  · cases b
    · have h := hlt rfl
      have e : (word_Alu 12 false v w).1 = IntKind.u64.wrap (IntKind.u32.wrap (shr .i32 (IntKind.i32.wrap (IntKind.u32.wrap v)) (Int.tmod w 32))) := rfl
      have hs2 : Int.tmod w 32 ≤ 31 := by
        have := tmod_nn (x := w) (n := 32) hw.1 (by decide); omega
      have hr : (word_Alu 12 false v w).1 = lo false (word_Alu 12 false v w).1 := by
        rw [e]
        show _ = _ % 4294967296
        simp only [wrap_u64, wrap_u32]; omega
      refine parts_in hV (r := (word_Alu 12 false v w).1) (word_W _ _ hv hw) ?_ ?_ (fun h => by cases h) hr
      · rw [e]
        have hT := tArsh32_in hc.1 hv ic.1 hs.1 hs2
        show tnum_In (scalar_shift 12 false c (Int.tmod w 32)).t _ = true
        unfold scalar_shift
        rw [if_neg (by decide), if_neg (by decide), if_neg (by decide)]
        split
        · exact hT
        · exact hT
      · show inU (scalar_shift 12 false c (Int.tmod w 32)).u _
        unfold scalar_shift
        rw [if_neg (by decide), if_neg (by decide), if_neg (by decide)]
        split
        · rename_i hhi
          have hU := URsh_sound (n := Int.tmod w 32) hc.2.1 ic.2.1
          have hs1 : 0 ≤ Int.tmod w 32 := hs.1
          rw [and63_id hs1 (by omega)] at hU
          have hvhi : v < 2147483648 := by have := ic.2.1.2; omega
          have e2 : (word_Alu 12 false v w).1 = shr .u64 v (Int.tmod w 32) := by
            rw [e, u32_id ⟨hv.1, h.1⟩, shr_int hs1 (by omega)]
            have e3 : IntKind.i32.wrap v = v := by rw [wrap_i32]; split <;> omega
            rw [e3]
            unfold shr
            have hb : IntKind.bits .i32 = 32 := rfl
            have hp := pdiv (x := v) (k := Int.tmod w 32) hv.1
            rw [hb, Nat.min_eq_left (by omega), wrap_u32, wrap_u64]
            omega
          rw [e2]; exact hU
        · exact UAll_in (word_W _ _ hv hw)
    · refine parts_in hV (r := (word_Alu 12 true v w).1) (word_W _ _ hv hw) ?_ ?_ (fun _ => ?_) rfl
      · exact tArsh64_in hc.1 hv ic.1 hs.1 hs.2.1
      · exact UAll_in (word_W _ _ hv hw)
      · have := SArsh_sound (n := Int.tmod w 64) ic.2.2
        have hs1 : 0 ≤ Int.tmod w 64 := hs.1
        have hs2 : Int.tmod w 64 ≤ 63 := hs.2.1
        rwa [and63_id hs1 hs2] at this
theorem shcore_in {k : Int} {b : Bool} {c d : Sc} {v w : Int} (hk : k = 6 ∨ k = 7 ∨ k = 12) (hc : VSc c) (hd : VSc d) (hv : W64 v) (hw : W64 w) (hlt : b = false → v < 4294967296 ∧ w < 4294967296) (ic : Inx c v) (id : Inx d w) :
    Inx (shcore k b c d) (word_Alu k b v w).1 := by
  have hr : (word_Alu k b v w).1 = lo b (word_Alu k b v w).1 := by
    cases b
    · have h := hlt rfl
      show _ = _ % 4294967296
      rcases hk with rfl | rfl | rfl
      · rw [w6 hv hlt hw]
        show _ % 4294967296 = _ % 4294967296 % 4294967296
        omega
      · rw [w7 hv hlt hw]
        show _ % 4294967296 = _ % 4294967296 % 4294967296
        omega
      · show IntKind.u64.wrap (IntKind.u32.wrap (shr .i32 (IntKind.i32.wrap (IntKind.u32.wrap v)) (Int.tmod w 32))) = IntKind.u64.wrap (IntKind.u32.wrap (shr .i32 (IntKind.i32.wrap (IntKind.u32.wrap v)) (Int.tmod w 32))) % 4294967296
        simp only [wrap_u64, wrap_u32]; omega
    · rfl
  have hA := any_in (b := b) (word_W k b hv hw) hr
  unfold shcore
  split
  · rename_i h1
    split
    · rename_i h2
      rw [Is_sound hc hv ic h1, Is_sound hd hw id h2]
      exact Of_in (word_W k b hv hw)
    · exact hA
  · split
    · rename_i h2
      rw [Is_sound hd hw id h2]
      exact shift_in hk hc hv hw hlt ic
    · exact hA
theorem shcore_may {k : Int} {b : Bool} {c d : Sc} (hc : VSc c) : MayP (shcore k b c d) := by
  unfold shcore
  split
  · split
    · exact Of_may _
    · exact settle_may Any_V
  · split
    · exact settle_may (shift_V hc)
    · exact settle_may Any_V
/-! ### All -/
theorem cb_f (c : Sc) : cb false c = scalar_settle c false := rfl
theorem cb_t (c : Sc) : cb true c = c := rfl
theorem PA_0 (c d : Sc) : PA 0 c d = ⟨tnum_Add c.t d.t, span_UAdd c.u d.u, span_SAdd c.s d.s⟩ := by
  unfold PA
  rw [if_pos rfl]
theorem PA_1 (c d : Sc) : PA 1 c d = ⟨tnum_Sub c.t d.t, span_USub c.u d.u, span_SSub c.s d.s⟩ := by
  unfold PA
  rw [if_neg (by decide), if_pos rfl]
theorem PA_2 (c d : Sc) : PA 2 c d = ⟨tnum_Mul c.t d.t, span_UMul c.u d.u, scalar_Any.s⟩ := by
  unfold PA
  rw [if_neg (by decide), if_neg (by decide), if_pos rfl]
theorem PA_3 (c d : Sc) : PA 3 c d = ⟨scalar_Any.t, span_UDiv c.u d.u, scalar_Any.s⟩ := by
  unfold PA
  rw [if_neg (by decide), if_neg (by decide), if_neg (by decide), if_pos rfl]
theorem PA_9 (c d : Sc) : PA 9 c d = ⟨scalar_Any.t, span_UMod c.u d.u, scalar_Any.s⟩ := by
  unfold PA
  rw [if_neg (by decide), if_neg (by decide), if_neg (by decide), if_neg (by decide), if_pos rfl]
theorem PA_4 (c d : Sc) : PA 4 c d = ⟨tnum_Or c.t d.t, span_UOr c.u d.u, scalar_Any.s⟩ := by
  unfold PA
  rw [if_neg (by decide), if_neg (by decide), if_neg (by decide), if_neg (by decide), if_neg (by decide), if_pos rfl]
theorem PA_5 (c d : Sc) : PA 5 c d = ⟨tnum_And c.t d.t, span_UAnd c.u d.u, scalar_Any.s⟩ := by
  unfold PA
  rw [if_neg (by decide), if_neg (by decide), if_neg (by decide), if_neg (by decide), if_neg (by decide), if_neg (by decide), if_pos rfl]
theorem PA_10 (c d : Sc) : PA 10 c d = ⟨tnum_Xor c.t d.t, scalar_Any.u, scalar_Any.s⟩ := by
  unfold PA
  rw [if_neg (by decide), if_neg (by decide), if_neg (by decide), if_neg (by decide), if_neg (by decide), if_neg (by decide), if_neg (by decide)]
theorem A0 (b : Bool) (c d : Sc) : scalar_Alu_0 b c d = core 0 b (cb b c) (cb b d) (PA 0 (cb b c) (cb b d)) := by
  rw [PA_0]
  cases b
  · rw [cb_f, cb_f]
    unfold scalar_Alu_0 core
    rw [if_neg Bool.false_ne_true]
  · rw [cb_t, cb_t]
    unfold scalar_Alu_0 core
    rw [if_pos rfl]
theorem A1 (b : Bool) (c d : Sc) : scalar_Alu_1 b c d = core 1 b (cb b c) (cb b d) (PA 1 (cb b c) (cb b d)) := by
  rw [PA_1]
  cases b
  · rw [cb_f, cb_f]
    unfold scalar_Alu_1 core
    rw [if_neg Bool.false_ne_true]
  · rw [cb_t, cb_t]
    unfold scalar_Alu_1 core
    rw [if_pos rfl]
theorem A2 (b : Bool) (c d : Sc) : scalar_Alu_2 b c d = core 2 b (cb b c) (cb b d) (PA 2 (cb b c) (cb b d)) := by
  rw [PA_2]
  cases b
  · rw [cb_f, cb_f]
    unfold scalar_Alu_2 core
    rw [if_neg Bool.false_ne_true]
  · rw [cb_t, cb_t]
    unfold scalar_Alu_2 core
    rw [if_pos rfl]
theorem A3 (b : Bool) (c d : Sc) : scalar_Alu_3 b c d = core 3 b (cb b c) (cb b d) (PA 3 (cb b c) (cb b d)) := by
  rw [PA_3]
  cases b
  · rw [cb_f, cb_f]
    unfold scalar_Alu_3 core
    rw [if_neg Bool.false_ne_true]
  · rw [cb_t, cb_t]
    unfold scalar_Alu_3 core
    rw [if_pos rfl]
theorem A9 (b : Bool) (c d : Sc) : scalar_Alu_9 b c d = core 9 b (cb b c) (cb b d) (PA 9 (cb b c) (cb b d)) := by
  rw [PA_9]
  cases b
  · rw [cb_f, cb_f]
    unfold scalar_Alu_9 core
    rw [if_neg Bool.false_ne_true]
  · rw [cb_t, cb_t]
    unfold scalar_Alu_9 core
    rw [if_pos rfl]
theorem A4 (b : Bool) (c d : Sc) : scalar_Alu_4 b c d = core 4 b (cb b c) (cb b d) (PA 4 (cb b c) (cb b d)) := by
  rw [PA_4]
  cases b
  · rw [cb_f, cb_f]
    unfold scalar_Alu_4 core
    rw [if_neg Bool.false_ne_true]
  · rw [cb_t, cb_t]
    unfold scalar_Alu_4 core
    rw [if_pos rfl]
theorem A5 (b : Bool) (c d : Sc) : scalar_Alu_5 b c d = core 5 b (cb b c) (cb b d) (PA 5 (cb b c) (cb b d)) := by
  rw [PA_5]
  cases b
  · rw [cb_f, cb_f]
    unfold scalar_Alu_5 core
    rw [if_neg Bool.false_ne_true]
  · rw [cb_t, cb_t]
    unfold scalar_Alu_5 core
    rw [if_pos rfl]
theorem A10 (b : Bool) (c d : Sc) : scalar_Alu_10 b c d = core 10 b (cb b c) (cb b d) (PA 10 (cb b c) (cb b d)) := by
  rw [PA_10]
  cases b
  · rw [cb_f, cb_f]
    unfold scalar_Alu_10 core
    rw [if_neg Bool.false_ne_true]
  · rw [cb_t, cb_t]
    unfold scalar_Alu_10 core
    rw [if_pos rfl]
theorem A6 (b : Bool) (c d : Sc) : scalar_Alu_6 b c d = shcore 6 b (cb b c) (cb b d) := by
  cases b
  · rw [cb_f, cb_f]
    unfold scalar_Alu_6 shcore
    rw [if_neg Bool.false_ne_true, if_neg Bool.false_ne_true]
  · rw [cb_t, cb_t]
    unfold scalar_Alu_6 shcore
    rw [if_pos rfl, if_pos rfl]
theorem A7 (b : Bool) (c d : Sc) : scalar_Alu_7 b c d = shcore 7 b (cb b c) (cb b d) := by
  cases b
  · rw [cb_f, cb_f]
    unfold scalar_Alu_7 shcore
    rw [if_neg Bool.false_ne_true, if_neg Bool.false_ne_true]
  · rw [cb_t, cb_t]
    unfold scalar_Alu_7 shcore
    rw [if_pos rfl, if_pos rfl]
theorem A12 (b : Bool) (c d : Sc) : scalar_Alu_12 b c d = shcore 12 b (cb b c) (cb b d) := by
  cases b
  · rw [cb_f, cb_f]
    unfold scalar_Alu_12 shcore
    rw [if_neg Bool.false_ne_true, if_neg Bool.false_ne_true]
  · rw [cb_t, cb_t]
    unfold scalar_Alu_12 shcore
    rw [if_pos rfl, if_pos rfl]
theorem A11 (b : Bool) (c d : Sc) : scalar_Alu_11 b c d = if (scalar_Is (cb b d)).2 = true then scalar_Of (word_Alu 11 b (scalar_Is (cb b c)).1 (scalar_Is (cb b d)).1).1 else cb b d := by
  cases b
  · rw [cb_f, cb_f]
    unfold scalar_Alu_11
    rw [if_neg Bool.false_ne_true]
    by_cases h1 : (scalar_Is (scalar_settle c false)).2 = true
    · rw [if_pos h1]
    · rw [if_neg h1]
  · rw [cb_t, cb_t]
    unfold scalar_Alu_11
    rw [if_pos rfl]
    by_cases h1 : (scalar_Is c).2 = true
    · rw [if_pos h1]
    · rw [if_neg h1]
theorem A8 (b : Bool) (c d : Sc) : scalar_Alu_8 b c d = if (scalar_Is (cb b c)).2 = true then scalar_Of (word_Alu 8 b (scalar_Is (cb b c)).1 (scalar_Is (cb b d)).1).1 else scalar_Alu_1 b (scalar_Of 0) (cb b c) := by
  cases b
  · rw [cb_f, cb_f]
    unfold scalar_Alu_8
    rw [if_neg Bool.false_ne_true]
    by_cases h1 : (scalar_Is (scalar_settle c false)).2 = true
    · rw [if_pos h1, if_pos h1]
      by_cases h2 : (scalar_Is (scalar_settle d false)).2 = true
      · rw [if_pos h2]
      · rw [if_neg h2]
    · rw [if_neg h1, if_neg h1]
  · rw [cb_t, cb_t]
    unfold scalar_Alu_8
    rw [if_pos rfl]
    by_cases h1 : (scalar_Is c).2 = true
    · rw [if_pos h1, if_pos h1]
      by_cases h2 : (scalar_Is d).2 = true
      · rw [if_pos h2]
      · rw [if_neg h2]
    · rw [if_neg h1, if_neg h1]
def isOp (k : Int) : Prop := k = 0 ∨ k = 1 ∨ k = 2 ∨ k = 3 ∨ k = 4 ∨ k = 5 ∨ k = 6 ∨ k = 7 ∨ k = 8 ∨ k = 9 ∨ k = 10 ∨ k = 11 ∨ k = 12
def OkP (p : Int × Bool) : Prop := p.2 = true
theorem ite_Ok {q : Prop} {c : Prop} [Decidable c] {x y : Int × Bool} (h1 : c → OkP x → q) (h2 : ¬ c → OkP y → q) : OkP (if c then x else y) → q := by
  by_cases h : c
  · rw [if_pos h]; exact h1 h
  · rw [if_neg h]; exact h2 h
theorem ite_Ok' {c : Prop} [Decidable c] {x y : Int × Bool} (h1 : c → OkP x) (h2 : ¬ c → OkP y) : OkP (if c then x else y) := by
  by_cases h : c
  · rw [if_pos h]; exact h1 h
  · rw [if_neg h]; exact h2 h
theorem word_ok {k : Int} {b : Bool} {v w : Int} (h : (word_Alu k b v w).2 = true) : isOp k := by
  revert h
  show OkP (word_Alu k b v w) → isOp k
  unfold word_Alu
  repeat' (refine ite_Ok (fun _ => ?_) (fun _ => ?_))
  all_goals
    intro h
    first
      | (unfold isOp; omega)
      | exact absurd h (by unfold OkP; decide)
theorem word_some {k : Int} {b : Bool} {v w : Int} (h : isOp k) : (word_Alu k b v w).2 = true := by
  show OkP (word_Alu k b v w)
  unfold isOp at h
  unfold word_Alu
  repeat' (refine ite_Ok' (fun _ => ?_) (fun _ => ?_))
  all_goals first
    | exact rfl
    | (exfalso; omega)
theorem neg_word {b : Bool} {v w w' : Int} : (word_Alu 8 b v w) = (word_Alu 8 b v w') := by cases b <;> rfl
theorem mov_word {b : Bool} {v v' w : Int} : (word_Alu 11 b v w) = (word_Alu 11 b v' w) := by cases b <;> rfl
theorem sub_neg {b : Bool} {v w : Int} : (word_Alu 1 b 0 v).1 = (word_Alu 8 b v w).1 := by
  cases b
  · show IntKind.u64.wrap (IntKind.u32.wrap ((IntKind.u32.wrap 0) - (IntKind.u32.wrap v))) = IntKind.u64.wrap (IntKind.u32.wrap (0 - (IntKind.u32.wrap v)))
    rfl
  · rfl
theorem AE0 (b : Bool) (c d : Sc) : scalar_Alu 0 b c d = scalar_Alu_0 b c d := by
  unfold scalar_Alu
  rw [if_pos rfl]
theorem AE1 (b : Bool) (c d : Sc) : scalar_Alu 1 b c d = scalar_Alu_1 b c d := by
  unfold scalar_Alu
  rw [if_neg (by decide), if_pos rfl]
theorem AE2 (b : Bool) (c d : Sc) : scalar_Alu 2 b c d = scalar_Alu_2 b c d := by
  unfold scalar_Alu
  rw [if_neg (by decide), if_neg (by decide), if_pos rfl]
theorem AE3 (b : Bool) (c d : Sc) : scalar_Alu 3 b c d = scalar_Alu_3 b c d := by
  unfold scalar_Alu
  rw [if_neg (by decide), if_neg (by decide), if_neg (by decide), if_pos rfl]
theorem AE4 (b : Bool) (c d : Sc) : scalar_Alu 4 b c d = scalar_Alu_4 b c d := by
  unfold scalar_Alu
  rw [if_neg (by decide), if_neg (by decide), if_neg (by decide), if_neg (by decide), if_pos rfl]
theorem AE5 (b : Bool) (c d : Sc) : scalar_Alu 5 b c d = scalar_Alu_5 b c d := by
  unfold scalar_Alu
  rw [if_neg (by decide), if_neg (by decide), if_neg (by decide), if_neg (by decide), if_neg (by decide), if_pos rfl]
theorem AE6 (b : Bool) (c d : Sc) : scalar_Alu 6 b c d = scalar_Alu_6 b c d := by
  unfold scalar_Alu
  rw [if_neg (by decide), if_neg (by decide), if_neg (by decide), if_neg (by decide), if_neg (by decide), if_neg (by decide), if_pos rfl]
theorem AE7 (b : Bool) (c d : Sc) : scalar_Alu 7 b c d = scalar_Alu_7 b c d := by
  unfold scalar_Alu
  rw [if_neg (by decide), if_neg (by decide), if_neg (by decide), if_neg (by decide), if_neg (by decide), if_neg (by decide), if_neg (by decide), if_pos rfl]
theorem AE9 (b : Bool) (c d : Sc) : scalar_Alu 9 b c d = scalar_Alu_9 b c d := by
  unfold scalar_Alu
  rw [if_neg (by decide), if_neg (by decide), if_neg (by decide), if_neg (by decide), if_neg (by decide), if_neg (by decide), if_neg (by decide), if_neg (by decide), if_pos rfl]
theorem AE10 (b : Bool) (c d : Sc) : scalar_Alu 10 b c d = scalar_Alu_10 b c d := by
  unfold scalar_Alu
  rw [if_neg (by decide), if_neg (by decide), if_neg (by decide), if_neg (by decide), if_neg (by decide), if_neg (by decide), if_neg (by decide), if_neg (by decide), if_neg (by decide), if_pos rfl]
theorem AE11 (b : Bool) (c d : Sc) : scalar_Alu 11 b c d = scalar_Alu_11 b c d := by
  unfold scalar_Alu
  rw [if_neg (by decide), if_neg (by decide), if_neg (by decide), if_neg (by decide), if_neg (by decide), if_neg (by decide), if_neg (by decide), if_neg (by decide), if_neg (by decide), if_neg (by decide), if_pos rfl]
theorem AE12 (b : Bool) (c d : Sc) : scalar_Alu 12 b c d = scalar_Alu_12 b c d := by
  unfold scalar_Alu
  rw [if_neg (by decide), if_neg (by decide), if_neg (by decide), if_neg (by decide), if_neg (by decide), if_neg (by decide), if_neg (by decide), if_neg (by decide), if_neg (by decide), if_neg (by decide), if_neg (by decide), if_pos rfl]
theorem AE8 (b : Bool) (c d : Sc) : scalar_Alu 8 b c d = scalar_Alu_8 b c d := by
  unfold scalar_Alu
  rw [if_neg (by decide), if_neg (by decide), if_neg (by decide), if_neg (by decide), if_neg (by decide), if_neg (by decide), if_neg (by decide), if_neg (by decide), if_neg (by decide), if_neg (by decide), if_neg (by decide), if_neg (by decide), if_pos rfl]
theorem Alu_in {k : Int} {b : Bool} {c d : Sc} {v w : Int} (hk : isOp k) (hc : VSc c) (hd : VSc d) (hv : W64 v) (hw : W64 w) (ic : Inx c v) (id : Inx d w) : Inx (scalar_Alu k b c d) (word_Alu k b v w).1 := by
  have hc' := cb_V (b := b) hc; have hd' := cb_V (b := b) hd
  have ic' := cb_in (b := b) hc hv ic; have id' := cb_in (b := b) hd hw id
  have hv' := lo_W (b := b) hv; have hw' := lo_W (b := b) hw
  have hlt : b = false → lo b v < 4294967296 ∧ lo b w < 4294967296 := fun h => by
    subst h; exact ⟨(lo_W32 hv).2, (lo_W32 hw).2⟩
  have sh : ∀ k, k = 6 ∨ k = 7 ∨ k = 12 → Inx (shcore k b (cb b c) (cb b d)) (word_Alu k b v w).1 := fun k hk => by
    rw [← word_lo k b (v := v) hw]
    exact shcore_in hk hc' hd' hv' hw' hlt ic' id'
  have pl : ∀ k, plain k → Inx (core k b (cb b c) (cb b d) (PA k (cb b c) (cb b d))) (word_Alu k b v w).1 := fun k hk => plain_in hk hc hd hv hw ic id
  rcases hk with rfl | rfl | rfl | rfl | rfl | rfl | rfl | rfl | rfl | rfl | rfl | rfl | rfl
  · rw [AE0, A0]; exact pl 0 (by unfold plain; omega)
  · rw [AE1, A1]; exact pl 1 (by unfold plain; omega)
  · rw [AE2, A2]; exact pl 2 (by unfold plain; omega)
  · rw [AE3, A3]; exact pl 3 (by unfold plain; omega)
  · rw [AE4, A4]; exact pl 4 (by unfold plain; omega)
  · rw [AE5, A5]; exact pl 5 (by unfold plain; omega)
  · rw [AE6, A6]; exact sh 6 (by omega)
  · rw [AE7, A7]; exact sh 7 (by omega)
  · rw [AE8, A8, ← word_lo 8 b (v := v) hw]
    by_cases h1 : (scalar_Is (cb b c)).2 = true
    · rw [if_pos h1, Is_sound hc' hv' ic' h1, neg_word (w' := lo b w)]
      exact Of_in (word_W _ _ hv' hw')
    · rw [if_neg h1]
      have z : W64 0 := by unfold W64; omega
      have := plain_in (k := 1) (b := b) (by unfold plain; omega) (Of_V z) hc' z hv' (Of_in z) ic'
      rw [← A1, sub_neg (w := lo b w)] at this
      exact this
  · rw [AE9, A9]; exact pl 9 (by unfold plain; omega)
  · rw [AE10, A10]; exact pl 10 (by unfold plain; omega)
  · rw [AE11, A11, ← word_lo 11 b (v := v) hw]
    by_cases h1 : (scalar_Is (cb b d)).2 = true
    · rw [if_pos h1, Is_sound hd' hw' id' h1, mov_word (v' := lo b v)]
      exact Of_in (word_W _ _ hv' hw')
    · rw [if_neg h1]
      have : (word_Alu 11 b (lo b v) (lo b w)).1 = lo b w := by
        cases b
        · show IntKind.u64.wrap (IntKind.u32.wrap (w % 4294967296)) = w % 4294967296
          simp only [wrap_u64, wrap_u32]; omega
        · rfl
      rw [this]; exact id'
  · rw [AE12, A12]; exact sh 12 (by omega)
theorem Alu_may {k : Int} {b : Bool} {c d : Sc} (hk : isOp k) (hc : VSc c) (hd : VSc d) (md : MayP d) : MayP (scalar_Alu k b c d) := by
  have hc' := cb_V (b := b) hc; have hd' := cb_V (b := b) hd
  have pl : ∀ k, plain k → MayP (core k b (cb b c) (cb b d) (PA k (cb b c) (cb b d))) := fun k hk => core_may (PA_V hk hc' hd')
  rcases hk with rfl | rfl | rfl | rfl | rfl | rfl | rfl | rfl | rfl | rfl | rfl | rfl | rfl
  · rw [AE0, A0]; exact pl 0 (by unfold plain; omega)
  · rw [AE1, A1]; exact pl 1 (by unfold plain; omega)
  · rw [AE2, A2]; exact pl 2 (by unfold plain; omega)
  · rw [AE3, A3]; exact pl 3 (by unfold plain; omega)
  · rw [AE4, A4]; exact pl 4 (by unfold plain; omega)
  · rw [AE5, A5]; exact pl 5 (by unfold plain; omega)
  · rw [AE6, A6]; exact shcore_may hc'
  · rw [AE7, A7]; exact shcore_may hc'
  · rw [AE8, A8]
    split
    · exact Of_may _
    · rw [A1]
      have z : W64 0 := by unfold W64; omega
      exact core_may (PA_V (by unfold plain; omega) (cb_V (Of_V z)) (cb_V hc'))
  · rw [AE9, A9]; exact pl 9 (by unfold plain; omega)
  · rw [AE10, A10]; exact pl 10 (by unfold plain; omega)
  · rw [AE11, A11]
    split
    · exact Of_may _
    · cases b
      · rw [cb_f]; exact settle_may hd
      · rw [cb_t]; exact md
  · rw [AE12, A12]; exact shcore_may hc'
theorem Alu_none {k : Int} {b : Bool} {c d : Sc} (hk : ¬ isOp k) : scalar_Alu k b c d = scalar_Any := by
  unfold isOp at hk
  unfold scalar_Alu
  repeat' rw [if_neg (by omega)]
  rfl
end Go.Proofs.T
