/- Numbers: the evaluator's arithmetic is the model's. -/
import Derived.Test.YtdhcifmcocgloaaGreatEvG
set_option linter.unusedSimpArgs false
set_option linter.unusedVariables false
namespace Go.Ev
variable {P : Program} {base : Nat} {ρ0 : Rho}

theorem kBeq_eq {j k : IntKind} : kBeq j k = true ↔ j = k := by cases j <;> cases k <;> decide
theorem beqInt_eq (a b : Int) : beqInt a b = (a == b) := by
  cases a with
  | ofNat x =>
    cases b with
    | ofNat y =>
      show Nat.beq x y = _
      rw [Bool.eq_iff_iff, beq_iff_eq, Nat.beq_eq]
      constructor
      · intro h; rw [h]
      · intro h; exact Int.ofNat.inj h
    | negSucc y => show false = _; rw [Bool.eq_iff_iff, beq_iff_eq]; simp
  | negSucc x =>
    cases b with
    | ofNat y => show false = _; rw [Bool.eq_iff_iff, beq_iff_eq]; simp
    | negSucc y =>
      show Nat.beq x y = _
      rw [Bool.eq_iff_iff, beq_iff_eq, Nat.beq_eq]
      constructor
      · intro h; rw [h]
      · intro h; exact Int.negSucc.inj h
theorem ltInt_eq (a b : Int) : ltInt a b = decide (a < b) := by
  cases a with
  | ofNat x =>
    cases b with
    | ofNat y =>
      show Nat.blt x y = _
      rw [Bool.eq_iff_iff, decide_eq_true_iff, Nat.blt_eq]
      exact Int.ofNat_lt.symm
    | negSucc y => show false = _; rw [Bool.eq_iff_iff, decide_eq_true_iff]; simp [Int.negSucc_eq]; omega
  | negSucc x =>
    cases b with
    | ofNat y => show true = _; rw [Bool.eq_iff_iff, decide_eq_true_iff]; simp [Int.negSucc_eq]; omega
    | negSucc y =>
      show Nat.blt y x = _
      rw [Bool.eq_iff_iff, decide_eq_true_iff, Nat.blt_eq]
      simp only [Int.negSucc_eq]
      omega

theorem wrapN_eq (k : IntKind) (n : Nat) : wrapN k n = k.wrap (n : Int) := by
  unfold wrapN
  rw [force_eq, forceI_eq]
  cases hb : Nat.blt n (lim k) with
  | true =>
    have h : n < lim k := by simpa [Nat.blt_eq] using hb
    simp only [cond_true]
    cases k <;> simp only [lim] at h <;> simp [IntKind.wrap, IntKind.bits, IntKind.signed] <;> omega
  | false =>
    simp only [cond_false]
    cases k <;> simp [isU, full, IntKind.wrap, IntKind.bits, IntKind.signed] <;> exact Int.natCast_emod n _
theorem wrapI_eq (k : IntKind) (n : Int) : wrapI k n = k.wrap n := by
  cases n with
  | ofNat m => unfold wrapI; simp only [force_eq]; exact wrapN_eq k m
  | negSucc m => unfold wrapI; simp only [forceI_eq]
theorem addI_eq (a b : Int) : addI a b = a + b := by cases a <;> cases b <;> rfl
theorem mulI_eq (a b : Int) : mulI a b = a * b := by cases a <;> cases b <;> rfl
theorem subI_eq (a b : Int) : subI a b = a - b := by
  cases a with
  | ofNat x =>
    cases b with
    | ofNat y =>
      show cond (Nat.ble y x) _ _ = _
      cases h : Nat.ble y x with
      | true => have := Nat.le_of_ble_eq_true h; simp only [cond_true]; show ((x - y : Nat) : Int) = (x : Int) - (y : Int); omega
      | false => rfl
    | negSucc y => rfl
  | negSucc x => cases b <;> rfl
theorem shlI_eq (a : Int) (n : Nat) : shlI a n = a * 2 ^ n := by
  cases a with
  | ofNat x => show ((x * 2 ^ n : Nat) : Int) = (x : Int) * 2 ^ n; simp
  | negSucc x => rfl
theorem shrI_eq (a : Int) (n : Nat) : shrI a n = a.fdiv (2 ^ n) := by
  cases a with
  | ofNat x =>
    show ((x / 2 ^ n : Nat) : Int) = (x : Int).fdiv (2 ^ n)
    rw [Int.fdiv_eq_ediv_of_nonneg _ (Int.le_of_lt (Int.pow_pos (by decide)))]
    simp
  | negSucc x => rfl
theorem quoI_eq (a b : Int) : quoI a b = a.tdiv b := by cases a <;> cases b <;> rfl
theorem remI_eq (a b : Int) : remI a b = a.tmod b := by cases a <;> cases b <;> rfl

theorem bitsOf_eq (k : IntKind) (n : Int) : bitsOf k n = (BitVec.ofInt k.bits n).toNat := by
  rw [BitVec.toNat_ofInt]
  cases n with
  | ofNat m =>
    show cond (Nat.blt m (full k)) m (Nat.mod m (full k)) = _
    have e : (cond (Nat.blt m (full k)) m (Nat.mod m (full k))) = m % full k := by
      cases hb : Nat.blt m (full k) with
      | true => have h : m < full k := by simpa [Nat.blt_eq] using hb
                simp only [cond_true]; exact (Nat.mod_eq_of_lt h).symm
      | false => rfl
    rw [e]
    cases k <;> simp [full, IntKind.bits] <;> omega
  | negSucc m =>
    show Nat.sub (Nat.sub (full k) 1) (Nat.mod m (full k)) = _
    have e : Nat.sub (Nat.sub (full k) 1) (Nat.mod m (full k)) = full k - 1 - m % full k := rfl
    rw [e, Int.negSucc_eq]
    cases k <;> simp only [full, IntKind.bits] <;> omega
theorem bitsOf_lt (k : IntKind) (n : Int) : bitsOf k n < full k := by
  rw [bitsOf_eq]
  have := (BitVec.ofInt k.bits n).isLt
  cases k <;> simpa [full, IntKind.bits] using this
theorem full_eq (k : IntKind) : full k = 2 ^ k.bits := by cases k <;> rfl
theorem xor_full (w a : Nat) (h : a < 2 ^ w) : a ^^^ (2 ^ w - 1) = 2 ^ w - 1 - a := by
  apply Nat.eq_of_testBit_eq
  intro i
  rw [Nat.testBit_xor, Nat.testBit_two_pow_sub_one, show 2 ^ w - 1 - a = 2 ^ w - (a + 1) from by omega, Nat.testBit_two_pow_sub_succ h]
  by_cases hi : i < w
  · simp [hi]
  · have : a.testBit i = false := Nat.testBit_lt_two_pow (Nat.lt_of_lt_of_le h (Nat.pow_le_pow_right (by decide) (by omega)))
    simp [hi, this]

theorem asNat_int {v : V} {n : Nat} (h : asNat v = some n) : ∃ k, v = .int k (n : Int) := by
  cases v <;> simp only [asNat] at h <;> try (cases h; done)
  rename_i k m
  cases m with
  | ofNat m => simp only [Option.some.injEq] at h; subst h; exact ⟨k, rfl⟩
  | negSucc m => cases h
theorem intV_eq (k : IntKind) (n : Int) : intV k n = some (.int k n) := by unfold intV; rw [forceI_eq]
theorem minN_eq (a b : Nat) : minN a b = min a b := by
  unfold minN
  cases h : Nat.ble a b with
  | true => have := Nat.le_of_ble_eq_true h; simp only [cond_true]; omega
  | false => have : ¬ a ≤ b := fun hh => by rw [Nat.ble_eq_true_of_le hh] at h; cases h
             simp only [cond_false]; omega

/-- the arithmetic and comparison of numbers of one kind -/
theorem binI_run {op : BinOp} {k : IntKind} {a b : Int} {t : TypeId} {v : V} (hsh : isSh op = false) (h : binI op k a b = some v) :
    ∃ u, (∀ w, (binOp op t (.int k a) (.int k b)).run P w = .ok u w) ∧ ∀ ρ, VRel ρ v u := by
  have hi : ∀ n : Int, ∀ ρ, VRel ρ (.int k n) (.int k n) := fun n ρ => by simp only [VRel]
  have hb : ∀ n : Bool, ∀ ρ, VRel ρ (.bool n) (.bool n) := fun n ρ => by simp only [VRel]
  cases op <;> simp only [isSh, Bool.true_eq_false] at hsh <;> simp only [binI, cInt, intV_eq, wrapI_eq, wrapN_eq, addI_eq, subI_eq, mulI_eq, quoI_eq, remI_eq, beqInt_eq, ltInt_eq] at h
  case add => simp only [Option.some.injEq] at h; subst h; exact ⟨_, fun w => by simp [binOp, Op.intArith], hi _⟩
  case sub => simp only [Option.some.injEq] at h; subst h; exact ⟨_, fun w => by simp [binOp, Op.intArith], hi _⟩
  case mul => simp only [Option.some.injEq] at h; subst h; exact ⟨_, fun w => by simp [binOp, Op.intArith], hi _⟩
  case quo =>
    cases hz : (b == 0) with
    | true => rw [hz] at h; cases h
    | false =>
      rw [hz] at h; simp only [cond_false, Option.some.injEq] at h; subst h
      have hz' : ¬ b = 0 := by simpa using hz
      exact ⟨_, fun w => by simp [binOp, Op.intDiv, hz'], hi _⟩
  case rem =>
    cases hz : (b == 0) with
    | true => rw [hz] at h; cases h
    | false =>
      rw [hz] at h; simp only [cond_false, Option.some.injEq] at h; subst h
      have hz' : ¬ b = 0 := by simpa using hz
      exact ⟨_, fun w => by simp [binOp, Op.intDiv, hz'], hi _⟩
  case and => simp only [Option.some.injEq] at h; subst h; exact ⟨_, fun w => by simp [binOp, Op.intBits, bitsOf_eq], hi _⟩
  case or => simp only [Option.some.injEq] at h; subst h; exact ⟨_, fun w => by simp [binOp, Op.intBits, bitsOf_eq], hi _⟩
  case xor => simp only [Option.some.injEq] at h; subst h; exact ⟨_, fun w => by simp [binOp, Op.intBits, bitsOf_eq], hi _⟩
  case andNot =>
    simp only [Option.some.injEq] at h; subst h
    refine ⟨_, fun w => ?_, hi _⟩
    have e : Nat.land (bitsOf k a) (Nat.xor (bitsOf k b) (Nat.sub (full k) 1)) = (BitVec.ofInt k.bits a &&& ~~~BitVec.ofInt k.bits b).toNat := by
      have hx : Nat.xor (bitsOf k b) (Nat.sub (full k) 1) = 2 ^ k.bits - 1 - bitsOf k b := by
        have := xor_full k.bits (bitsOf k b) (by rw [← full_eq]; exact bitsOf_lt k b)
        rw [← full_eq] at this
        rw [← full_eq]
        exact this
      rw [hx, BitVec.toNat_and, BitVec.toNat_not, bitsOf_eq, bitsOf_eq]
      rfl
    rw [e]
    simp [binOp, Op.intBits]
  case eql => simp only [Option.some.injEq] at h; subst h; exact ⟨_, fun w => by simp [binOp, Op.intCmp], hb _⟩
  case neq => simp only [Option.some.injEq] at h; subst h; exact ⟨_, fun w => by simp [binOp, Op.intCmp, bne], hb _⟩
  case lss => simp only [Option.some.injEq] at h; subst h; exact ⟨_, fun w => by simp [binOp, Op.intCmp], hb _⟩
  case leq =>
    simp only [Option.some.injEq] at h; subst h
    refine ⟨.bool (decide (a ≤ b)), fun w => by simp [binOp, Op.intCmp], fun ρ => ?_⟩
    simp only [VRel]; congr 1; rw [Bool.eq_iff_iff]; simp
  case gtr => simp only [Option.some.injEq] at h; subst h; exact ⟨_, fun w => by simp [binOp, Op.intCmp], hb _⟩
  case geq =>
    simp only [Option.some.injEq] at h; subst h
    refine ⟨.bool (decide (a ≥ b)), fun w => by simp [binOp, Op.intCmp], fun ρ => ?_⟩
    simp only [VRel]; congr 1; rw [Bool.eq_iff_iff]; simp
theorem binSh_run {op : BinOp} {k k' : IntKind} {a : Int} {n : Nat} {t : TypeId} {v : V} (h : binSh op k a (minN n k.bits) = some v) :
    ∃ u, (∀ w, (binOp op t (.int k a) (.int k' (n : Int))).run P w = .ok u w) ∧ ∀ ρ, VRel ρ v u := by
  have hi : ∀ n : Int, ∀ ρ, VRel ρ (.int k n) (.int k n) := fun n ρ => by simp only [VRel]
  have hn : ¬ ((n : Int) < 0) := by omega
  cases op <;> simp only [binSh, intV_eq, wrapI_eq, shlI_eq, shrI_eq, minN_eq] at h <;> try (cases h; done)
  case shl => simp only [Option.some.injEq] at h; subst h; exact ⟨_, fun w => by simp [binOp, Op.shift, hn], hi _⟩
  case shr => simp only [Option.some.injEq] at h; subst h; exact ⟨_, fun w => by simp [binOp, Op.shift, hn], hi _⟩
end Go.Ev
