/- within: a number below sixty. -/
import Derived.Test.YtdhcifmcocgloaaGreatProg
import Derived.WalkKit
set_option linter.unusedSimpArgs false
set_option linter.unusedVariables false
namespace Go.Ev.K
open Go.Proofs Go.RowKit
def SmallInt (w : World) (e : Ending) (w' : World) : Prop := ∃ k : Nat, k < 60 ∧ e = .returned (.int .i64 k) ∧ w = w'
theorem tmod_bd (a : Int) : -60 < a.tmod 60 ∧ a.tmod 60 < 60 := by
  rcases Int.le_total 0 a with h | h
  · rw [Int.tmod_eq_emod_of_nonneg h]; omega
  · have e : a = -(-a) := by omega
    rw [e, Int.neg_tmod, Int.tmod_eq_emod_of_nonneg (by omega)]; omega
theorem small_neg {a : Int} {w : World} (h : a.tmod 60 < 0) : SmallInt w (.returned (.int .i64 (wrap64 (a.tmod 60 + 60)))) w := by
  have hb := tmod_bd a
  refine ⟨(a.tmod 60 + 60).toNat, by omega, ?_, rfl⟩
  have e : wrap64 (a.tmod 60 + 60) = a.tmod 60 + 60 := by unfold wrap64; omega
  rw [e, Int.toNat_of_nonneg (by omega)]
theorem small_pos {a : Int} {w : World} (h : 0 ≤ a.tmod 60) : SmallInt w (.returned (.int .i64 (a.tmod 60))) w := by
  have hb := tmod_bd a
  refine ⟨(a.tmod 60).toNat, by omega, ?_, rfl⟩
  rw [Int.toNat_of_nonneg (by omega)]
set_option maxHeartbeats 400000 in
theorem within_any (a : Int) (w : World) : Calls Tryz.prog 5 #[.int .i64 a, .int .i64 60] w (SmallInt w) := by
  go_enter Tryz.func5, Tryz.ntmps5
  go_wp2
  · go_ret
    exact small_neg ‹_›
  · go_ret
    exact small_pos ‹_›
end Go.Ev.K
