/- TopEmpty's first part, walked. -/
import Derived.Test.YtdhcifmcocgloaaGreatRows
import Derived.WalkKit
import Derived.ProofKit
import Derived.Lib.Hide
import Derived.Test.YtdhcifmcocgloaaGreatEvT0
import Derived.Test.YtdhcifmcocgloaaGreatEvTw
import Derived.Test.YtdhcifmcocgloaaGreatEvKz
set_option linter.unusedSimpArgs false
set_option linter.unusedVariables false
namespace Go.Ev.K
open Go.Proofs Go.RowKit
theorem f3_body : Tryz.f3.body = some (seqs (lTake 3 (chain body3)) (seqs restL .ret)) := by kernel_rfl
set_option maxHeartbeats 400000 in
set_option maxRecDepth 100000 in
theorem pre (a : Int) (w : World) (R : Code) (Q : Exit → Act → World → Prop)
   (hk : ∀ (k : Nat) (w' : World), k < 60 → Below w.heap.size w w' → R.wp Tryz.prog Q { tmps := #[.int .i64 (2 + (k : Int)), undef, .bool false, undef, undef, undef, undef, undef, undef, .bool true, .bool false, .int .i64 a, .int .i64 k, .int .i64 (2 + (k : Int)), undef, undef, undef, undef, undef, undef, undef, undef, undef, undef, undef, undef, undef, undef, undef, undef, undef, undef, undef, undef, undef, undef, undef, undef, undef, undef, undef, undef, undef, undef, undef, undef, undef, undef, undef, undef, undef, undef, undef], defers := [] } w') :
   (seqs (lTake 3 (chain body3)) R).wp Tryz.prog Q { tmps := #[.int .i64 a, undef, undef, undef, undef, undef, undef, undef, undef, undef, undef, undef, undef, undef, undef, undef, undef, undef, undef, undef, undef, undef, undef, undef, undef, undef, undef, undef, undef, undef, undef, undef, undef, undef, undef, undef, undef, undef, undef, undef, undef, undef, undef, undef, undef, undef, undef, undef, undef, undef, undef, undef, undef], defers := [] } w := by
  have HK := Lib.hid hk
  clear hk
  simp only [lTake_eq, body3, bodyOf, Tryz.f3, chain, List.take, seqs]
  go_wp2_with (first
    | (go_at_call 4; refine (known_true _).mono ?_; rintro e w' ⟨rfl, hb⟩)
    | (go_at_call 5; refine (within_any _ _).mono ?_; rintro e w' ⟨k, hk60, rfl, rfl⟩))
  exact HK.out k _ hk60 hb
end Go.Ev.K
