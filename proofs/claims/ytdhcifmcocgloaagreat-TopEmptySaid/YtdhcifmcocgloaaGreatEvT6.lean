/- TopEmpty's second part at one number of pages after another: the kernel runs it. -/
import Derived.Test.YtdhcifmcocgloaaGreatEvT0
set_option linter.unusedSimpArgs false
set_option linter.unusedVariables false
namespace Go.Ev.K
set_option maxRecDepth 100000 in
theorem rest7 (x y : Int) : chkP 7 x y = true := by kernel_rfl
set_option maxRecDepth 100000 in
theorem rest13 (x y : Int) : chkP 13 x y = true := by kernel_rfl
set_option maxRecDepth 100000 in
theorem rest19 (x y : Int) : chkP 19 x y = true := by kernel_rfl
set_option maxRecDepth 100000 in
theorem rest25 (x y : Int) : chkP 25 x y = true := by kernel_rfl
set_option maxRecDepth 100000 in
theorem rest31 (x y : Int) : chkP 31 x y = true := by kernel_rfl
set_option maxRecDepth 100000 in
theorem rest37 (x y : Int) : chkP 37 x y = true := by kernel_rfl
set_option maxRecDepth 100000 in
theorem rest43 (x y : Int) : chkP 43 x y = true := by kernel_rfl
set_option maxRecDepth 100000 in
theorem rest49 (x y : Int) : chkP 49 x y = true := by kernel_rfl
set_option maxRecDepth 100000 in
theorem rest55 (x y : Int) : chkP 55 x y = true := by kernel_rfl
set_option maxRecDepth 100000 in
theorem rest61 (x y : Int) : chkP 61 x y = true := by kernel_rfl
end Go.Ev.K
