/- Operations side by side (5): append. -/
import Derived.Test.YtdhcifmcocgloaaGreatEvM
set_option linter.unusedSimpArgs false
set_option linter.unusedVariables false
namespace Go.Ev
open Go.RowKit (Below)
variable {P : Program} {base : Nat} {ρ0 ρ : Rho} {a : A} {act : Act}

/-! ### the model's append, in two cases -/
def LenIs (P : Program) (zeros : Bool) (x : Value) (n : Nat) : Prop := match zeros with
  | true => ∃ k, x = .int k (n : Int)
  | false => ∀ w, (Builtin.lenOf x).run P w = .ok n w
def appended (zeros : Bool) (e : TypeId) (size n : Nat) (x : Value) : Sem (Array Value) :=
  if !zeros then Builtin.firstCells size n x else if n * size = 0 then pure #[] else do pure (Builtin.zeroCells (← zeroValue e).cells n)
def isIntD (d : TypeDesc) : Bool := match d with
  | .int _ => true
  | _ => false

theorem run_append_fits {t xt ty e : TypeId} {dx : TypeDesc} {i : TypeInfo} {w w' : World} (ht : P.underlying t = some (.slice e)) (hxt : P.underlying xt = some dx) (hi : P.info? e = some i)
    {x : Value} {n : Nat} (hn : LenIs P (isIntD dx) x n) (hn1 : n < 1048576) (hn2 : i.bytes * n ≤ 1073741824) {b : Option Addr} {sLen sCap : Nat} (hle : sLen + n ≤ sCap) {new : Array Value}
    {z : Value} (hz : isIntD dx = true → ∀ w, (zeroValue e).run P w = .ok z w) (hap : (appended (isIntD dx) e i.size n x).run P w = .ok new w)
    (hst : match b with
      | none => w' = w
      | some ad => (storeCells (ad.add (sLen * i.size)) new.toList).run P w = .ok () w') :
    (Builtin.append_ #[t, xt] ty #[.slice b sLen sCap, x]).run P w = .ok (.slice b (sLen + n) sCap) w' := by
  have hwrap : IntKind.i64.wrap (n : Int) = n := by rw [IntKind.wrap_i64]; omega
  have hneg : ¬ ((n : Int) < 0) := by omega
  have h48 : ¬ (281474976710656 < (n : Int) * (i.bytes : Int)) := by
    have : ((n * i.bytes : Nat) : Int) ≤ 1073741824 := by rw [Nat.mul_comm]; omega
    rw [Int.natCast_mul] at this
    omega
  by_cases hI : ∃ k, dx = .int k
  · obtain ⟨k, rfl⟩ := hI
    obtain ⟨k2, rfl⟩ := hn
    simp only [isIntD, appended, Bool.not_true, Bool.false_eq_true, if_false] at hap
    have hz' := hz rfl
    by_cases h0 : n * i.size = 0
    · rw [if_pos h0] at hap
      have hnew : new = #[] := by injection hap with h1; exact h1.symm
      subst hnew
      cases b with
      | none =>
        simp only at hst
        subst hst
        simp [Builtin.append_, run_underlying ht, run_underlying hxt, sizeOf, typeInfo, hi, asInt, asIntOf, hwrap, hneg, h48, hle, h0]
      | some ad =>
        simp only at hst
        have hst' : (storeCells (ad.add (sLen * i.size)) []).run P w = .ok () w' := hst
        simp [Builtin.append_, run_underlying ht, run_underlying hxt, sizeOf, typeInfo, hi, asInt, asIntOf, hwrap, hneg, h48, hle, h0, hst']
    · rw [if_neg h0] at hap
      have hnew : new = Builtin.zeroCells z.cells n := by
        simp only [Sem.run_bind, hz', Result.andThen_ok, Sem.run_pure] at hap
        injection hap with h1; exact h1.symm
      subst hnew
      cases b with
      | none =>
        simp only at hst
        subst hst
        simp [Builtin.append_, run_underlying ht, run_underlying hxt, sizeOf, typeInfo, hi, asInt, asIntOf, hwrap, hneg, h48, hle, h0, hz']
      | some ad =>
        simp only at hst
        simp [Builtin.append_, run_underlying ht, run_underlying hxt, sizeOf, typeInfo, hi, asInt, asIntOf, hwrap, hneg, h48, hle, h0, hz', hst]
  · have hne : ∀ k, dx = .int k → False := fun k e => hI ⟨k, e⟩
    have hf : isIntD dx = false := by cases dx <;> first | rfl | exact (hne _ rfl).elim
    rw [hf] at hn hap
    simp only [LenIs] at hn
    simp only [appended, Bool.not_false, if_true] at hap
    cases b with
    | none =>
      simp only at hst
      subst hst
      simp [Builtin.append_, run_underlying ht, run_underlying hxt, sizeOf, typeInfo, hi, hn, hle, hap, hne]
    | some ad =>
      simp only at hst
      simp [Builtin.append_, run_underlying ht, run_underlying hxt, sizeOf, typeInfo, hi, hn, hle, hap, hst, hne]

theorem run_append_grows {t xt ty e : TypeId} {dx : TypeDesc} {i : TypeInfo} {w : World} (ht : P.underlying t = some (.slice e)) (hxt : P.underlying xt = some dx) (hi : P.info? e = some i)
    {x : Value} {n : Nat} (hn : LenIs P (isIntD dx) x n) (hn1 : n < 1048576) (hn2 : i.bytes * n ≤ 1073741824) {b : Option Addr} {sLen sCap : Nat} (hgt : sCap < sLen + n) (hk : sLen + n < 1048576)
    (hby : i.bytes * (sLen + n) ≤ 1073741824) {new old : Array Value} {z : Value} (hz : ∀ w, (zeroValue e).run P w = .ok z w)
    (hap : (appended (isIntD dx) e i.size n x).run P w.drew = .ok new w.drew) (hold : (Builtin.firstCells i.size sLen (.slice b sLen sCap)).run P w.drew = .ok old w.drew) :
    (Builtin.append_ #[t, xt] ty #[.slice b sLen sCap, x]).run P w =
      .ok (.slice (some ⟨w.heap.size, 0, none⟩) (sLen + n) (grownCap w (sLen + n) sCap e)) (w.drew.alloc (.cells (old ++ new ++ Builtin.zeroCells z.cells (grownCap w (sLen + n) sCap e - (sLen + n))) e)) := by
  have hwrap : IntKind.i64.wrap (n : Int) = n := by rw [IntKind.wrap_i64]; omega
  have hneg : ¬ ((n : Int) < 0) := by omega
  have h48 : ¬ (281474976710656 < (n : Int) * (i.bytes : Int)) := by
    have : ((n * i.bytes : Nat) : Int) ≤ 1073741824 := by rw [Nat.mul_comm]; omega
    rw [Int.natCast_mul] at this
    omega
  have hle : ¬ (sLen + n ≤ sCap) := by omega
  have h63 : ¬ (9223372036854775807 < ((sLen : Int) + (n : Int))) := by omega
  have h48' : ¬ (281474976710656 < Builtin.nextslicecap (sLen + n) sCap * i.bytes) := by
    have := growslice_fits (bytes := i.bytes) hgt (by rw [Nat.mul_comm]; omega)
    omega
  by_cases hI : ∃ k, dx = .int k
  · obtain ⟨k, rfl⟩ := hI
    obtain ⟨k2, rfl⟩ := hn
    simp only [isIntD, appended, Bool.not_true, Bool.false_eq_true, if_false] at hap
    by_cases h0 : n * i.size = 0
    · rw [if_pos h0] at hap
      have hnew : new = #[] := by injection hap with h1; exact h1.symm
      subst hnew
      simp [Builtin.append_, run_underlying ht, run_underlying hxt, sizeOf, typeInfo, hi, asInt, asIntOf, hwrap, hneg, h48, hle, h0, h63, h48', Question.forced, hold, hz, newRow, grownCap]
    · rw [if_neg h0] at hap
      have hnew : new = Builtin.zeroCells z.cells n := by
        simp only [Sem.run_bind, hz, Result.andThen_ok, Sem.run_pure] at hap
        injection hap with h1; exact h1.symm
      subst hnew
      simp [Builtin.append_, run_underlying ht, run_underlying hxt, sizeOf, typeInfo, hi, asInt, asIntOf, hwrap, hneg, h48, hle, h0, h63, h48', Question.forced, hold, hz, newRow, grownCap]
  · have hne : ∀ k, dx = .int k → False := fun k e => hI ⟨k, e⟩
    have hf : isIntD dx = false := by cases dx <;> first | rfl | exact (hne _ rfl).elim
    rw [hf] at hn hap
    simp only [LenIs] at hn
    simp only [appended, Bool.not_false, if_true] at hap
    simp [Builtin.append_, run_underlying ht, run_underlying hxt, sizeOf, typeInfo, hi, hn, hle, hap, hne, h63, h48', Question.forced, hold, hz, newRow, grownCap]
end Go.Ev
