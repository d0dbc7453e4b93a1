/- The run of 'known': the table of the sum's step, the first state. -/
import Derived.Test.YtdhcifmcocgloaaGreatProg
import Derived.KernelRfl
import Derived.Test.YtdhcifmcocgloaaGreatEvZb
set_option linter.unusedSimpArgs false
set_option linter.unusedVariables false
namespace Go.Ev.K
open Go.Proofs
noncomputable def ent0 : Ent := ⟨0, [1779033703, 3144134277, 1013904242, 2773480762, 1359893119, 2600822924, 528734635, 1541459225], [0, 0, 0, 0, 0, 0, 0, 0, 0, 0, 0, 0, 0, 0, 0, 0, 0, 1, 1, 0, 120, 10, 0, 1, 2, 5, 0, 0, 0, 0, 0, 0, 0, 128, 0, 0, 0, 0, 0, 0, 0, 0, 0, 0, 0, 0, 0, 0, 0, 0, 0, 0, 0, 0, 0, 0, 0, 0, 0, 0, 0, 0, 1, 8], [3727451928, 3430108958, 1461418193, 1556719798, 2572919405, 1989518201, 4837425, 4129327254]⟩
noncomputable def ent1 : Ent := ⟨0, [1779033703, 3144134277, 1013904242, 2773480762, 1359893119, 2600822924, 528734635, 1541459225], [0, 0, 0, 0, 0, 0, 0, 0, 0, 1, 0, 0, 0, 0, 0, 0, 0, 222, 44, 103, 24, 204, 115, 79, 30, 87, 27, 120, 209, 92, 201, 168, 182, 153, 91, 162, 109, 118, 149, 163, 121, 0, 73, 208, 49, 246, 32, 136, 150, 128, 0, 0, 0, 0, 0, 0, 0, 0, 0, 0, 0, 0, 1, 136], [4058873530, 4046754999, 2110598104, 2785278867, 46289285, 1668290855, 2423375649, 2660810303]⟩
noncomputable def ent2 : Ent := ⟨0, [1779033703, 3144134277, 1013904242, 2773480762, 1359893119, 2600822924, 528734635, 1541459225], [1, 0, 0, 0, 0, 0, 0, 0, 0, 0, 0, 0, 0, 0, 0, 0, 0, 0, 0, 0, 0, 0, 0, 0, 0, 0, 0, 0, 0, 0, 0, 0, 0, 0, 0, 0, 0, 0, 0, 0, 241, 237, 126, 186, 241, 52, 148, 183, 125, 205, 43, 216, 166, 3, 251, 147, 2, 194, 81, 133, 99, 112, 25, 39], [2537413910, 1074371586, 3161774875, 1750010957, 375093742, 2305993110, 4075822861, 847358274]⟩
noncomputable def ent3 : Ent := ⟨64, [2537413910, 1074371586, 3161774875, 1750010957, 375093742, 2305993110, 4075822861, 847358274], [1, 0, 0, 0, 0, 0, 0, 0, 0, 0, 0, 0, 0, 0, 0, 0, 0, 0, 0, 0, 0, 0, 0, 0, 0, 0, 0, 0, 0, 0, 0, 0, 0, 0, 0, 0, 0, 0, 0, 0, 241, 237, 126, 186, 241, 52, 148, 183, 125, 205, 43, 216, 166, 3, 251, 147, 2, 194, 81, 133, 99, 112, 25, 39, 144, 113, 199, 33, 158, 152, 190, 63, 1, 0, 0, 0, 0, 0, 0, 0, 128, 0, 0, 0, 0, 0, 0, 0, 0, 0, 0, 0, 0, 0, 0, 0, 0, 0, 0, 0, 0, 0, 0, 0, 0, 0, 0, 0, 0, 0, 0, 0, 0, 0, 0, 0, 0, 0, 0, 0, 0, 0, 0, 0, 0, 0, 2, 128], [843662439, 969636418, 553789417, 3944924112, 771024102, 1960484443, 693978928, 122694697]⟩
noncomputable def tab : List Ent := [ent0, ent1, ent2, ent3]
noncomputable def orc (f : FuncId) : Option (List V → M V) := cond (Nat.beq f 222) (some (addM 5 tab)) none
noncomputable def sf : Self := evN Tryz.prog orc 100000
noncomputable def chain : Code → List Code
  | .seq x y => x :: chain y
  | c => [c]
noncomputable def lastC : Code → Code
  | .seq _ y => lastC y
  | c => c
noncomputable def bodyOf (fn : Func) : Code := match fn.body with
  | some c => c
  | none => .skip
noncomputable def body4 : Code := bodyOf Tryz.f4
noncomputable def a0 : A := begA Tryz.f4 []
noncomputable def s0 : S := ⟨.nil, 0, 0, 0⟩
noncomputable def part (i k : Nat) : List Code := lTake k (lDrop i (chain body4))
end Go.Ev.K
