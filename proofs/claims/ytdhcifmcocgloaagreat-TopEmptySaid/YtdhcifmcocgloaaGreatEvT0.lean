/- TopEmpty behind its first two calls: a frame for each number of pages, and the check. -/
import Derived.Test.YtdhcifmcocgloaaGreatEvKe
set_option linter.unusedSimpArgs false
set_option linter.unusedVariables false
namespace Go.Ev
noncomputable def chkEnd (i : Nat) (v : V) (r : R A) : Bool := R.rec (motive := fun _ => Bool) (fun a _ => A.rec (motive := fun _ => Bool) (fun t d sz => match d with
  | [] => sameV v ((A.mk t d sz).at i)
  | _ => false) a) (fun _ => false) r
theorem chkEnd_ok {i : Nat} {v : V} {r : R A} (h : chkEnd i v r = true) : ∃ a s, r = .ok a s ∧ a.d = [] ∧ a.at i = v := by
  cases r with
  | no e => cases h
  | ok a s =>
    obtain ⟨t, d, sz⟩ := a
    cases d with
    | cons p d => cases h
    | nil => exact ⟨_, s, rfl, rfl, (sameV_eq (show sameV v ((A.mk t [] sz).at i) = true from h)).symm⟩
end Go.Ev
namespace Go.Ev.K
open Go.Proofs
noncomputable def body3 : Code := bodyOf Tryz.f3
noncomputable def restL : List Code := lTake 6 (lDrop 3 (chain body3))
/-- the frame behind 'pages = 2 + within(pages, 60)' -/
noncomputable def frL (p x y : Int) : List V := [.int .i64 p, undefV, .bool false, undefV, undefV, undefV, undefV, undefV, undefV, .bool true, .bool false, .int .i64 x, .int .i64 y, .int .i64 p]
noncomputable def chkP (p : Nat) (x y : Int) : Bool := chkEnd 2 (.bool true) (goL sf restL (begA Tryz.f3 (frL (Int.ofNat p) x y)) s0)
end Go.Ev.K
