/- TopEmpty's second part at one number of pages after another: the kernel runs it. -/
import Derived.Test.YtdhcifmcocgloaaGreatEvT0
set_option linter.unusedSimpArgs false
set_option linter.unusedVariables false
namespace Go.Ev.K
set_option maxRecDepth 100000 in
theorem rest5 (x y : Int) : chkP 5 x y = true := by kernel_rfl
set_option maxRecDepth 100000 in
theorem rest11 (x y : Int) : chkP 11 x y = true := by kernel_rfl
set_option maxRecDepth 100000 in
theorem rest17 (x y : Int) : chkP 17 x y = true := by kernel_rfl
set_option maxRecDepth 100000 in
theorem rest23 (x y : Int) : chkP 23 x y = true := by kernel_rfl
set_option maxRecDepth 100000 in
theorem rest29 (x y : Int) : chkP 29 x y = true := by kernel_rfl
set_option maxRecDepth 100000 in
theorem rest35 (x y : Int) : chkP 35 x y = true := by kernel_rfl
set_option maxRecDepth 100000 in
theorem rest41 (x y : Int) : chkP 41 x y = true := by kernel_rfl
set_option maxRecDepth 100000 in
theorem rest47 (x y : Int) : chkP 47 x y = true := by kernel_rfl
set_option maxRecDepth 100000 in
theorem rest53 (x y : Int) : chkP 53 x y = true := by kernel_rfl
set_option maxRecDepth 100000 in
theorem rest59 (x y : Int) : chkP 59 x y = true := by kernel_rfl
end Go.Ev.K
