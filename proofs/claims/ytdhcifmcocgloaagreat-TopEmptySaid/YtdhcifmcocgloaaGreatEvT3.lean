/- TopEmpty's second part at one number of pages after another: the kernel runs it. -/
import Derived.Test.YtdhcifmcocgloaaGreatEvT0
set_option linter.unusedSimpArgs false
set_option linter.unusedVariables false
namespace Go.Ev.K
set_option maxRecDepth 100000 in
theorem rest4 (x y : Int) : chkP 4 x y = true := by kernel_rfl
set_option maxRecDepth 100000 in
theorem rest10 (x y : Int) : chkP 10 x y = true := by kernel_rfl
set_option maxRecDepth 100000 in
theorem rest16 (x y : Int) : chkP 16 x y = true := by kernel_rfl
set_option maxRecDepth 100000 in
theorem rest22 (x y : Int) : chkP 22 x y = true := by kernel_rfl
set_option maxRecDepth 100000 in
theorem rest28 (x y : Int) : chkP 28 x y = true := by kernel_rfl
set_option maxRecDepth 100000 in
theorem rest34 (x y : Int) : chkP 34 x y = true := by kernel_rfl
set_option maxRecDepth 100000 in
theorem rest40 (x y : Int) : chkP 40 x y = true := by kernel_rfl
set_option maxRecDepth 100000 in
theorem rest46 (x y : Int) : chkP 46 x y = true := by kernel_rfl
set_option maxRecDepth 100000 in
theorem rest52 (x y : Int) : chkP 52 x y = true := by kernel_rfl
set_option maxRecDepth 100000 in
theorem rest58 (x y : Int) : chkP 58 x y = true := by kernel_rfl
end Go.Ev.K
