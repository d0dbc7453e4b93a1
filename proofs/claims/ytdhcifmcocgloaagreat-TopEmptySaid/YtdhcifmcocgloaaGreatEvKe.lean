/- The sum's step: each entry of the table by its own run. -/
import Derived.Test.YtdhcifmcocgloaaGreatEvKa
set_option linter.unusedSimpArgs false
set_option linter.unusedVariables false
namespace Go.Ev
noncomputable def chkV (v : V) (r : R V) : Bool := R.rec (motive := fun _ => Bool) (fun u _ => sameV v u) (fun _ => false) r
theorem chkV_ok {v : V} {r : R V} (h : chkV v r = true) : ∃ s, r = .ok v s := by
  cases r with
  | no e => cases h
  | ok u s => exact ⟨s, by rw [sameV_eq (show sameV v u = true from h)]⟩
noncomputable def entR (P : Program) (f : FuncId) (t : TypeId) (N : Nat) (e : Ent) : Bool :=
  chkV (.agg (mkI .u32 e.r)) ((evN P (fun _ => none) N).call f [.agg (mkI .u32 e.w), .sl 0 e.off 64 (.open_ 1)] ⟨Tr.set .nil 0 (.cells t (e.off + 64) (mkI .u8 e.b) true), 1, 0, 0⟩)
theorem entOk_of {P : Program} {f : FuncId} {t : TypeId} {N : Nat} {e : Ent} (h : entR P f t N e = true) : EntOk P f t N e := chkV_ok h
end Go.Ev
