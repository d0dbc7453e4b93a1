/- Soundness (2): an operation looks at its operands alone. -/
import Derived.Test.YtdhcifmcocgloaaGreatEvU
import Derived.Orders
set_option linter.unusedSimpArgs false
set_option linter.unusedVariables false
namespace Go.Ev
variable {P : Program}

theorem evals_congr {a b : A} : ∀ (xs : List Operand), (∀ x ∈ xs, a.eval x = b.eval x) → a.evals xs = b.evals xs
  | [], _ => rfl
  | x :: xs, h => by
    simp only [A.evals]
    rw [h x (List.mem_cons_self ..), evals_congr xs fun y hy => h y (List.mem_cons_of_mem _ hy)]
theorem evalPairs_congr {a b : A} : ∀ (xs : List (Nat × Operand)), (∀ p ∈ xs, a.eval p.2 = b.eval p.2) → a.evalPairs xs = b.evalPairs xs
  | [], _ => rfl
  | (i, x) :: xs, h => by
    simp only [A.evalPairs]
    rw [h (i, x) (List.mem_cons_self ..), evalPairs_congr xs fun y hy => h y (List.mem_cons_of_mem _ hy)]
theorem evM_congr {a b : A} {x : Operand} (h : a.eval x = b.eval x) : evM a x = evM b x := by unfold evM; rw [h]
theorem evO_congr {a b : A} {x : Option Operand} (h : ∀ y, x = some y → a.eval y = b.eval y) : evO a x = evO b x := by
  cases x with
  | none => rfl
  | some y => unfold evO; simp only [evM_congr (h y rfl)]

theorem evalOp_congr {a b : A} {o : Oper} (h : ∀ x ∈ o.op.operands, a.eval x = b.eval x) : evalOp P a o = evalOp P b o := by
  unfold evalOp
  cases ho : o.op <;> rw [ho] at h <;> simp only [Op.operands] at h
  case move x => show nval (evM a x) = nval (evM b x); rw [evM_congr (h x (by simp))]
  case assign x => show nval (evM a x) = nval (evM b x); rw [evM_congr (h x (by simp))]
  case pick c x y => show nval (opPick a c x y) = nval (opPick b c x y); unfold opPick pick2; rw [evM_congr (h c (by simp)), evM_congr (h x (by simp)), evM_congr (h y (by simp))]
  case alloc t => rfl
  case box t x => show nval (bnd (evM a x) (newVarB t)) = nval (bnd (evM b x) (newVarB t)); rw [evM_congr (h x (by simp))]
  case build t ps =>
    show nval (opBuild P a t ps) = nval (opBuild P b t ps)
    unfold opBuild
    rw [evalPairs_congr ps.toList fun p hp => h p.2 (by simp only [List.mem_toArray]; exact List.mem_map_of_mem hp)]
  case buildSlice t n ps =>
    show nval (opBuildSlice P a t n ps) = nval (opBuildSlice P b t n ps)
    unfold opBuildSlice
    rw [evalPairs_congr ps.toList fun p hp => h p.2 (by simp only [List.mem_toArray]; exact List.mem_map_of_mem hp)]
  case load t x => show nval (opLoad P a t x) = nval (opLoad P b t x); unfold opLoad; rw [evM_congr (h x (by simp))]
  case store t x v => show nunit (opStore P a t x v) = nunit (opStore P b t x v); unfold opStore; rw [evM_congr (h x (by simp)), evM_congr (h v (by simp))]
  case nilCheck x => show nval (bnd (evM a x) nilChk) = nval (bnd (evM b x) nilChk); rw [evM_congr (h x (by simp))]
  case binOp op t x y u => show nval (opBin P a op t x y) = nval (opBin P b op t x y); unfold opBin; rw [evM_congr (h x (by simp)), evM_congr (h y (by simp))]
  case unOp op t x => show nval (opUn a op x) = nval (opUn b op x); unfold opUn; rw [evM_congr (h x (by simp))]
  case convert s d x => show nval (opConv P a s d x) = nval (opConv P b s d x); unfold opConv; rw [evM_congr (h x (by simp))]
  case makeFunc fn f c =>
    cases fn with
    | func g =>
      show nval (opFunc a g f c) = nval (opFunc b g f c)
      unfold opFunc
      rw [evals_congr f.toList fun x hx => h x (by simp at hx ⊢; exact Or.inl hx), evals_congr c.toList fun x hx => h x (by simp at hx ⊢; exact Or.inr hx)]
    | _ => rfl
  case makeMap t r => cases r <;> rfl
  case makeSlice t l c => show nval (opMakeSlice P a t l c) = nval (opMakeSlice P b t l c); unfold opMakeSlice; rw [evM_congr (h l (by simp)), evM_congr (h c (by simp))]
  case slice t x lo hi mx =>
    show nval (opSlice P a t x lo hi mx) = nval (opSlice P b t x lo hi mx)
    unfold opSlice
    rw [evM_congr (h x (by simp)), evO_congr (x := lo) fun y hy => h y (by subst hy; simp), evO_congr (x := hi) fun y hy => h y (by subst hy; simp), evO_congr (x := mx) fun y hy => h y (by subst hy; simp)]
  case fieldAddr t x i => show nval (opFieldAddr P a t x i) = nval (opFieldAddr P b t x i); unfold opFieldAddr; rw [evM_congr (h x (by simp))]
  case field t x i => show nval (opField P a t x i) = nval (opField P b t x i); unfold opField; rw [evM_congr (h x (by simp))]
  case indexAddr t x i => show nval (opIndexAddr P a t x i) = nval (opIndexAddr P b t x i); unfold opIndexAddr; rw [evM_congr (h x (by simp)), evM_congr (h i (by simp))]
  case index t x i => show nval (opIndex P a t x i) = nval (opIndex P b t x i); unfold opIndex; rw [evM_congr (h x (by simp)), evM_congr (h i (by simp))]
  case lookup t x i ok => show nval (opLookup P a t x i ok) = nval (opLookup P b t x i ok); unfold opLookup; rw [evM_congr (h x (by simp)), evM_congr (h i (by simp))]
  case mapUpdate t m k x => show nunit (opMapUpd P a t m k x) = nunit (opMapUpd P b t m k x); unfold opMapUpd; rw [evM_congr (h m (by simp)), evM_congr (h k (by simp)), evM_congr (h x (by simp))]
  case extract t i => show nval (opExtract a t i) = nval (opExtract b t i); unfold opExtract; rw [evM_congr (h t (by simp))]
  case call c =>
    show BxN.rec (motive := fun _ => M Nx) (fun f => f a) (cCall P c) = BxN.rec (motive := fun _ => M Nx) (fun f => f b) (cCall P c)
    unfold cCall
    cases hc : c.callee with
    | builtin bi =>
      simp only
      rw [evals_congr c.args.toList fun x hx => h x (by simp only [Call.operands, hc]; simpa using hx)]
    | value f =>
      simp only
      rw [evals_congr c.args.toList fun x hx => h x (by simp only [Call.operands, hc]; simp at hx ⊢; exact Or.inr hx)]
      unfold opCallV
      rw [evM_congr (h f (by simp [Call.operands, hc]))]
    | invoke r n => rfl
  case defer c =>
    show BxN.rec (motive := fun _ => M Nx) (fun f => f a) (cDefer c) = BxN.rec (motive := fun _ => M Nx) (fun f => f b) (cDefer c)
    unfold cDefer
    cases hc : c.callee with
    | builtin bi => rfl
    | value f =>
      simp only
      rw [evals_congr c.args.toList fun x hx => h x (by simp only [Call.operands, hc]; simp at hx ⊢; exact Or.inr hx)]
      unfold opDeferV
      rw [evM_congr (h f (by simp [Call.operands, hc]))]
    | invoke r n => rfl
  all_goals rfl
end Go.Ev
