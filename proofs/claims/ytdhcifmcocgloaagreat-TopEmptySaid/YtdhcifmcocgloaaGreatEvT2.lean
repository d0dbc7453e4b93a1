/- TopEmpty's second part at one number of pages after another: the kernel runs it. -/
import Derived.Test.YtdhcifmcocgloaaGreatEvT0
set_option linter.unusedSimpArgs false
set_option linter.unusedVariables false
namespace Go.Ev.K
set_option maxRecDepth 100000 in
theorem rest3 (x y : Int) : chkP 3 x y = true := by kernel_rfl
set_option maxRecDepth 100000 in
theorem rest9 (x y : Int) : chkP 9 x y = true := by kernel_rfl
set_option maxRecDepth 100000 in
theorem rest15 (x y : Int) : chkP 15 x y = true := by kernel_rfl
set_option maxRecDepth 100000 in
theorem rest21 (x y : Int) : chkP 21 x y = true := by kernel_rfl
set_option maxRecDepth 100000 in
theorem rest27 (x y : Int) : chkP 27 x y = true := by kernel_rfl
set_option maxRecDepth 100000 in
theorem rest33 (x y : Int) : chkP 33 x y = true := by kernel_rfl
set_option maxRecDepth 100000 in
theorem rest39 (x y : Int) : chkP 39 x y = true := by kernel_rfl
set_option maxRecDepth 100000 in
theorem rest45 (x y : Int) : chkP 45 x y = true := by kernel_rfl
set_option maxRecDepth 100000 in
theorem rest51 (x y : Int) : chkP 51 x y = true := by kernel_rfl
set_option maxRecDepth 100000 in
theorem rest57 (x y : Int) : chkP 57 x y = true := by kernel_rfl
end Go.Ev.K
