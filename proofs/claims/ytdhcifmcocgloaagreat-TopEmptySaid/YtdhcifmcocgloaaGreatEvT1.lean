/- TopEmpty's second part at one number of pages after another: the kernel runs it. -/
import Derived.Test.YtdhcifmcocgloaaGreatEvT0
set_option linter.unusedSimpArgs false
set_option linter.unusedVariables false
namespace Go.Ev.K
set_option maxRecDepth 100000 in
theorem rest2 (x y : Int) : chkP 2 x y = true := by kernel_rfl
set_option maxRecDepth 100000 in
theorem rest8 (x y : Int) : chkP 8 x y = true := by kernel_rfl
set_option maxRecDepth 100000 in
theorem rest14 (x y : Int) : chkP 14 x y = true := by kernel_rfl
set_option maxRecDepth 100000 in
theorem rest20 (x y : Int) : chkP 20 x y = true := by kernel_rfl
set_option maxRecDepth 100000 in
theorem rest26 (x y : Int) : chkP 26 x y = true := by kernel_rfl
set_option maxRecDepth 100000 in
theorem rest32 (x y : Int) : chkP 32 x y = true := by kernel_rfl
set_option maxRecDepth 100000 in
theorem rest38 (x y : Int) : chkP 38 x y = true := by kernel_rfl
set_option maxRecDepth 100000 in
theorem rest44 (x y : Int) : chkP 44 x y = true := by kernel_rfl
set_option maxRecDepth 100000 in
theorem rest50 (x y : Int) : chkP 50 x y = true := by kernel_rfl
set_option maxRecDepth 100000 in
theorem rest56 (x y : Int) : chkP 56 x y = true := by kernel_rfl
end Go.Ev.K
