/- A piece of known(): the kernel runs it. -/
import Derived.Test.YtdhcifmcocgloaaGreatEvKs
set_option linter.unusedSimpArgs false
set_option linter.unusedVariables false
namespace Go.Ev.K
theorem seg1 : chk t1 sz1 h1 n1 (goL sf (part 0 5) a0 s0) = true := by kernel_rfl
end Go.Ev.K
namespace Go.Ev.K
theorem seg2 : chk t2 sz2 h2 n2 (goL sf (part 5 1) ⟨t1, [], sz1⟩ ⟨h1, n1, 0, 0⟩) = true := by kernel_rfl
end Go.Ev.K
namespace Go.Ev.K
theorem seg3 : chk t3 sz3 h3 n3 (goL sf (part 6 3) ⟨t2, [], sz2⟩ ⟨h2, n2, 0, 0⟩) = true := by kernel_rfl
end Go.Ev.K
namespace Go.Ev.K
theorem seg4 : chk t4 sz4 h4 n4 (goL sf (part 9 1) ⟨t3, [], sz3⟩ ⟨h3, n3, 0, 0⟩) = true := by kernel_rfl
end Go.Ev.K
namespace Go.Ev.K
theorem seg5 : chk t5 sz5 h5 n5 (goL sf (part 10 1) ⟨t4, [], sz4⟩ ⟨h4, n4, 0, 0⟩) = true := by kernel_rfl
end Go.Ev.K
namespace Go.Ev.K
theorem seg6 : chk t6 sz6 h6 n6 (goL sf (part 11 1) ⟨t5, [], sz5⟩ ⟨h5, n5, 0, 0⟩) = true := by kernel_rfl
end Go.Ev.K
