/- TopEmpty returns true, whatever the number: the two parts joined. -/
import Derived.Test.YtdhcifmcocgloaaGreatEvT1
import Derived.Test.YtdhcifmcocgloaaGreatEvT2
import Derived.Test.YtdhcifmcocgloaaGreatEvT3
import Derived.Test.YtdhcifmcocgloaaGreatEvT4
import Derived.Test.YtdhcifmcocgloaaGreatEvT5
import Derived.Test.YtdhcifmcocgloaaGreatEvT6
import Derived.Test.YtdhcifmcocgloaaGreatEvT7
set_option linter.unusedSimpArgs false
set_option linter.unusedVariables false
namespace Go.Ev.K
open Go.Proofs Go.RowKit
theorem rest_all : ∀ k : Nat, k < 60 → ∀ x y : Int, chkP (k + 2) x y = true := by
  intro k hk x y
  match k, hk with
  | 0, _ => exact rest2 x y
  | 1, _ => exact rest3 x y
  | 2, _ => exact rest4 x y
  | 3, _ => exact rest5 x y
  | 4, _ => exact rest6 x y
  | 5, _ => exact rest7 x y
  | 6, _ => exact rest8 x y
  | 7, _ => exact rest9 x y
  | 8, _ => exact rest10 x y
  | 9, _ => exact rest11 x y
  | 10, _ => exact rest12 x y
  | 11, _ => exact rest13 x y
  | 12, _ => exact rest14 x y
  | 13, _ => exact rest15 x y
  | 14, _ => exact rest16 x y
  | 15, _ => exact rest17 x y
  | 16, _ => exact rest18 x y
  | 17, _ => exact rest19 x y
  | 18, _ => exact rest20 x y
  | 19, _ => exact rest21 x y
  | 20, _ => exact rest22 x y
  | 21, _ => exact rest23 x y
  | 22, _ => exact rest24 x y
  | 23, _ => exact rest25 x y
  | 24, _ => exact rest26 x y
  | 25, _ => exact rest27 x y
  | 26, _ => exact rest28 x y
  | 27, _ => exact rest29 x y
  | 28, _ => exact rest30 x y
  | 29, _ => exact rest31 x y
  | 30, _ => exact rest32 x y
  | 31, _ => exact rest33 x y
  | 32, _ => exact rest34 x y
  | 33, _ => exact rest35 x y
  | 34, _ => exact rest36 x y
  | 35, _ => exact rest37 x y
  | 36, _ => exact rest38 x y
  | 37, _ => exact rest39 x y
  | 38, _ => exact rest40 x y
  | 39, _ => exact rest41 x y
  | 40, _ => exact rest42 x y
  | 41, _ => exact rest43 x y
  | 42, _ => exact rest44 x y
  | 43, _ => exact rest45 x y
  | 44, _ => exact rest46 x y
  | 45, _ => exact rest47 x y
  | 46, _ => exact rest48 x y
  | 47, _ => exact rest49 x y
  | 48, _ => exact rest50 x y
  | 49, _ => exact rest51 x y
  | 50, _ => exact rest52 x y
  | 51, _ => exact rest53 x y
  | 52, _ => exact rest54 x y
  | 53, _ => exact rest55 x y
  | 54, _ => exact rest56 x y
  | 55, _ => exact rest57 x y
  | 56, _ => exact rest58 x y
  | 57, _ => exact rest59 x y
  | 58, _ => exact rest60 x y
  | 59, _ => exact rest61 x y
  | n + 60, h => omega
theorem fr_rel {ρ : Rho} (a0 : Int) (k : Nat) : ARel ρ (begA Tryz.f3 (frL (Int.ofNat (k + 2)) a0 k)) { tmps := #[.int .i64 (2 + (k : Int)), undef, .bool false, undef, undef, undef, undef, undef, undef, .bool true, .bool false, .int .i64 a0, .int .i64 k, .int .i64 (2 + (k : Int)), undef, undef, undef, undef, undef, undef, undef, undef, undef, undef, undef, undef, undef, undef, undef, undef, undef, undef, undef, undef, undef, undef, undef, undef, undef, undef, undef, undef, undef, undef, undef, undef, undef, undef, undef, undef, undef, undef, undef], defers := [] } := by
  have e : (2 + (k : Int)) = Int.ofNat (k + 2) := by show (2 + (k : Int)) = ((k + 2 : Nat) : Int); omega
  rw [e]
  have hv : VsRel ρ (frL (Int.ofNat (k + 2)) a0 k) [.int .i64 (Int.ofNat (k + 2)), undef, .bool false, undef, undef, undef, undef, undef, undef, .bool true, .bool false, .int .i64 a0, .int .i64 k, .int .i64 (Int.ofNat (k + 2))] := by
    unfold frL
    repeat (first | exact VsRel.nil | refine VsRel.cons (by first | exact undef_rel | simp only [VRel]) ?_)
  have h := begA_rel (fn := Tryz.f3) hv
  rw [Tryz.ntmps3] at h
  have ea : ((⟨[.int .i64 (Int.ofNat (k + 2)), undef, .bool false, undef, undef, undef, undef, undef, undef, .bool true, .bool false, .int .i64 a0, .int .i64 k, .int .i64 (Int.ofNat (k + 2))]⟩ : Array Value) ++ Array.replicate (53 - (⟨[.int .i64 (Int.ofNat (k + 2)), undef, .bool false, undef, undef, undef, undef, undef, undef, .bool true, .bool false, .int .i64 a0, .int .i64 k, .int .i64 (Int.ofNat (k + 2))]⟩ : Array Value).size) undef : Array Value) = #[.int .i64 (Int.ofNat (k + 2)), undef, .bool false, undef, undef, undef, undef, undef, undef, .bool true, .bool false, .int .i64 a0, .int .i64 k, .int .i64 (Int.ofNat (k + 2)), undef, undef, undef, undef, undef, undef, undef, undef, undef, undef, undef, undef, undef, undef, undef, undef, undef, undef, undef, undef, undef, undef, undef, undef, undef, undef, undef, undef, undef, undef, undef, undef, undef, undef, undef, undef, undef, undef, undef] := by kernel_rfl
  rw [ea] at h
  exact h
theorem walk (a0 : Int) (w : World) : Calls Tryz.prog 3 #[.int .i64 a0] w fun e w' => e = .returned (.bool true) ∧ Below w.heap.size w w' := by
  refine calls_of_wp_defers Tryz.func3 f3_body ?_
  have e0 : ((#[.int .i64 a0] : Array Value) ++ Array.replicate (Tryz.f3.ntmps - (#[.int .i64 a0] : Array Value).size) undef : Array Value) = #[.int .i64 a0, undef, undef, undef, undef, undef, undef, undef, undef, undef, undef, undef, undef, undef, undef, undef, undef, undef, undef, undef, undef, undef, undef, undef, undef, undef, undef, undef, undef, undef, undef, undef, undef, undef, undef, undef, undef, undef, undef, undef, undef, undef, undef, undef, undef, undef, undef, undef, undef, undef, undef, undef, undef] := by kernel_rfl
  rw [e0]
  refine pre a0 w _ _ fun k w1 hk hb => ?_
  obtain ⟨a', s, hrun, hd, hat⟩ := chkEnd_ok (rest_all k hk a0 k)
  refine (seg_goL (sfOk w1.heap.size) restL _ s0 a' s hrun).2 (fun _ => none) w1 _ (rel_nil w1) (fr_rel a0 k) (fun _ _ _ => rfl) .ret _ fun ρ' w' act' o hA => wp_ret ?_
  have hdf : act'.defers = [] := by
    have := hA.dfr
    rw [hd] at this
    exact this
  show Leaves Tryz.prog Tryz.f3 act'.tmps _ act'.defers .returning w'
  rw [hdf]
  have h2 := hA.tmp 2
  rw [hat] at h2
  simp only [VRel] at h2
  refine ⟨.bool true, ?_, rfl, hb.trans (o.below.mono hb.size)⟩
  simpa [results, Tryz.results3] using h2
end Go.Ev.K
