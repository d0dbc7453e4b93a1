/- The sum's step at one entry: the kernel runs it. -/
import Derived.Test.YtdhcifmcocgloaaGreatEvKe
set_option linter.unusedSimpArgs false
set_option linter.unusedVariables false
namespace Go.Ev.K
open Go.Proofs
theorem ent0_run : entR Tryz.prog 222 5 100000 ent0 = true := by kernel_rfl
end Go.Ev.K
namespace Go.Ev.K
open Go.Proofs
theorem ent1_run : entR Tryz.prog 222 5 100000 ent1 = true := by kernel_rfl
end Go.Ev.K
namespace Go.Ev.K
open Go.Proofs
theorem ent2_run : entR Tryz.prog 222 5 100000 ent2 = true := by kernel_rfl
end Go.Ev.K
namespace Go.Ev.K
open Go.Proofs
theorem ent3_run : entR Tryz.prog 222 5 100000 ent3 = true := by kernel_rfl
end Go.Ev.K
