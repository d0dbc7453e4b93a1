/- TopEmpty's second part at one number of pages after another: the kernel runs it. -/
import Derived.Test.YtdhcifmcocgloaaGreatEvT0
set_option linter.unusedSimpArgs false
set_option linter.unusedVariables false
namespace Go.Ev.K
set_option maxRecDepth 100000 in
theorem rest6 (x y : Int) : chkP 6 x y = true := by kernel_rfl
set_option maxRecDepth 100000 in
theorem rest12 (x y : Int) : chkP 12 x y = true := by kernel_rfl
set_option maxRecDepth 100000 in
theorem rest18 (x y : Int) : chkP 18 x y = true := by kernel_rfl
set_option maxRecDepth 100000 in
theorem rest24 (x y : Int) : chkP 24 x y = true := by kernel_rfl
set_option maxRecDepth 100000 in
theorem rest30 (x y : Int) : chkP 30 x y = true := by kernel_rfl
set_option maxRecDepth 100000 in
theorem rest36 (x y : Int) : chkP 36 x y = true := by kernel_rfl
set_option maxRecDepth 100000 in
theorem rest42 (x y : Int) : chkP 42 x y = true := by kernel_rfl
set_option maxRecDepth 100000 in
theorem rest48 (x y : Int) : chkP 48 x y = true := by kernel_rfl
set_option maxRecDepth 100000 in
theorem rest54 (x y : Int) : chkP 54 x y = true := by kernel_rfl
set_option maxRecDepth 100000 in
theorem rest60 (x y : Int) : chkP 60 x y = true := by kernel_rfl
end Go.Ev.K
