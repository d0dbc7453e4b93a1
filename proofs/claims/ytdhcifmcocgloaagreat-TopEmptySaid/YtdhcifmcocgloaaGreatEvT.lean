/- Operations side by side (11): one operation. -/
import Derived.Test.YtdhcifmcocgloaaGreatEvS
set_option linter.unusedSimpArgs false
set_option linter.unusedVariables false
namespace Go.Ev
open Go.RowKit (Below)
variable {P : Program} {base : Nat} {ρ0 ρ : Rho} {a : A} {act : Act}

theorem sim_nno {e : Nat} {s : Sem Next} : SimN P base ρ0 (nval (no e)) s := fun st n st' hm => by
  obtain ⟨v, s1, h1, h2⟩ := bnd_ok hm
  exact (no_ok h1).elim
theorem sim_nok {m : M V} {s : Sem Value} (h : SimV P base ρ0 m s) : SimN P base ρ0 (nval m) (do pure (.value (← s))) := sim_nval h

theorem calleeF_rel {args : List V} {l : List Value} {v : V} {u : Value} {f : FuncId} {as : List V} (hc : calleeF args v = some (f, as)) (hu : VRel ρ v u) (hl : VsRel ρ args l) :
    ∃ first cap, u = .func (.func f) ⟨first⟩ ⟨cap⟩ ∧ VsRel ρ as (first ++ (l ++ cap)) := by
  unfold calleeF at hc
  split at hc
  · rename_i g fs cs
    simp only [Option.some.injEq, Prod.mk.injEq] at hc
    obtain ⟨rfl, rfl⟩ := hc
    simp only [VRel] at hu
    obtain ⟨l1, l2, rfl, h1, h2⟩ := hu
    refine ⟨l1, l2, rfl, ?_⟩
    rw [lApp_eq, lApp_eq]
    exact h1.append (hl.append h2)
  · cases hc

theorem sim_call (hN : NoCount P) (hA : ARel ρ0 a act) {c : Call} {t : TypeId} : SimN P base ρ0 (BxN.rec (motive := fun _ => M Nx) (fun f => f a) (cCall P c)) (do let d ← resolve act.eval c t; invoke d.target d.args) := by
  unfold cCall resolve
  cases hcal : c.callee with
  | builtin b =>
    simp only
    refine sim_opt fun args hargs => ?_
    have hl := evals_rel hA hargs
    have e : c.args.map act.eval = ⟨c.args.toList.map act.eval⟩ := by apply Array.ext'; simp
    rw [e]
    exact sim_builtinB (ts := c.argTypes.toList) hl
  | value f =>
    simp only
    refine sim_opt fun args hargs => ?_
    have hl := evals_rel hA hargs
    have e : c.args.map act.eval = ⟨c.args.toList.map act.eval⟩ := by apply Array.ext'; simp
    rw [e]
    unfold opCallV evM
    refine sim_opt fun v hv => sim_opt fun p hp => ?_
    obtain ⟨g, as⟩ := p
    obtain ⟨first, cap, h1, h2⟩ := calleeF_rel hp (eval_rel hA hv) hl
    refine sim_run (s' := callFunc g ⟨first ++ (c.args.toList.map act.eval ++ cap)⟩) (fun w => ?_) (sim_callNx hN h2)
    rw [h1]
    simp only [Deferred.ofValue, Sem.run_bind, Sem.run_pure, Result.andThen_ok, invoke]
    congr 2
    apply Array.ext'
    simp
  | invoke r n => exact sim_no

theorem sim_defer (hA : ARel ρ0 a act) {c : Call} {t : TypeId} : SimN P base ρ0 (BxN.rec (motive := fun _ => M Nx) (fun f => f a) (cDefer c)) (do pure (.defer (← resolve act.eval c t))) := by
  unfold cDefer resolve
  cases hcal : c.callee with
  | builtin b => exact sim_no
  | value f =>
    simp only
    refine sim_opt fun args hargs => ?_
    have hl := evals_rel hA hargs
    have e : c.args.map act.eval = ⟨c.args.toList.map act.eval⟩ := by apply Array.ext'; simp
    rw [e]
    unfold opDeferV evM
    refine sim_opt fun v hv => sim_opt fun p hp => ?_
    obtain ⟨g, as⟩ := p
    obtain ⟨first, cap, h1, h2⟩ := calleeF_rel hp (eval_rel hA hv) hl
    unfold dfrNx
    refine sim_pure (b := .defer { target := .fn (.func g) ⟨cap⟩, args := ⟨first ++ c.args.toList.map act.eval⟩ }) (fun w => ?_) fun ρ hg => ?_
    · rw [h1]
      simp only [Deferred.ofValue, Sem.run_bind, Sem.run_pure, Result.andThen_ok]
      congr 3
      apply Array.ext'
      simp
    · refine ⟨_, rfl, ⟨cap⟩, ⟨first ++ c.args.toList.map act.eval⟩, first ++ (c.args.toList.map act.eval ++ cap), rfl, ?_, h2.mono hg⟩
      apply Array.ext'
      simp
  | invoke r n => exact sim_no

theorem sim_nilChk (hA : ARel ρ0 a act) {x : Operand} {o : Oper} (ho : o.op = .nilCheck x) : SimN P base ρ0 (nval (bnd (evM a x) nilChk)) (execOp act.eval o) := by
  intro st n st' hm ρ w hg hr hf
  obtain ⟨v, s1, h1, h2⟩ := bnd_ok hm
  obtain ⟨rfl, rfl⟩ := ret_ok h2
  obtain ⟨u, s2, h3, h4⟩ := bnd_ok h1
  unfold evM at h3
  obtain ⟨hu, rfl⟩ := opt_ok h3
  have hr2 := (eval_rel hA hu).mono hg
  unfold execOp
  rw [ho]
  cases u with
  | ptr b off =>
    obtain ⟨rfl, rfl⟩ := ret_ok (show (ret (.ptr b off) : M V) st = .ok v s1 from h4)
    have hr3 := hr2
    simp only [VRel] at hr3
    obtain ⟨_, _, _, e⟩ := hr3
    refine ⟨.value (act.eval x), w, ρ, ?_, ⟨_, rfl, hr2⟩, Out.refl hr⟩
    simp only [e]
    rfl
  | fn f l1 l2 =>
    obtain ⟨rfl, rfl⟩ := ret_ok (show (ret (.fn f l1 l2) : M V) st = .ok v s1 from h4)
    have hr3 := hr2
    simp only [VRel] at hr3
    obtain ⟨_, _, e, _⟩ := hr3
    refine ⟨.value (act.eval x), w, ρ, ?_, ⟨_, rfl, hr2⟩, Out.refl hr⟩
    simp only [e]
    rfl
  | _ => cases h4

theorem sim_evalOp (hN : NoCount P) (hA : ARel ρ0 a act) (o : Oper) : SimN P base ρ0 (evalOp P a o) (execOp act.eval o) := by
  have hno : ∀ {e : Nat} {s : Sem Next}, SimN P base ρ0 (no e : M Nx) s := fun {e s} => sim_no
  unfold evalOp
  cases ho : o.op with
  | nilCheck x => exact sim_nilChk hA ho
  | move x => unfold execOp; rw [ho]; exact sim_run (s' := do pure (.value (← pure (act.eval x)))) (fun w => rfl) (sim_nval (sim_evM hA))
  | assign x => unfold execOp; rw [ho]; exact sim_run (s' := do pure (.value (← pure (act.eval x)))) (fun w => rfl) (sim_nval (sim_evM hA))
  | pick c x y =>
    unfold execOp; rw [ho]
    refine sim_run (fun w => ?_) (sim_nval (sim_opPick hA))
    simp
  | alloc t => unfold execOp; rw [ho]; exact sim_nval sim_opAlloc
  | box t x => unfold execOp; rw [ho]; exact sim_nval (sim_opBox hA)
  | build t parts => unfold execOp; rw [ho]; exact sim_nval (sim_opBuild hA)
  | buildSlice t len parts => unfold execOp; rw [ho]; exact sim_nval (sim_opBuildSlice hA)
  | load t x => unfold execOp; rw [ho]; exact sim_nval (sim_opLoad hA)
  | store t x v => unfold execOp; rw [ho]; exact sim_nunit (sim_opStore hA)
  | binOp op t x y b => unfold execOp; rw [ho]; exact sim_nval (sim_opBin hA)
  | unOp op t x => unfold execOp; rw [ho]; exact sim_nval (sim_opUn hA)
  | convert s d x => unfold execOp; rw [ho]; exact sim_nval (sim_opConv hA)
  | makeFunc f xs ys =>
    cases f with
    | func f => unfold execOp; rw [ho]; exact sim_nval (sim_opFunc hA)
    | _ => exact hno
  | makeMap t r =>
    cases r with
    | none => unfold execOp; rw [ho]; exact sim_nval sim_opMakeMap
    | some r => exact hno
  | makeSlice t l c => unfold execOp; rw [ho]; exact sim_nval (sim_opMakeSlice hA)
  | slice t x lo hi mx => unfold execOp; rw [ho]; exact sim_nval (sim_opSlice hA)
  | fieldAddr t x i => unfold execOp; rw [ho]; exact sim_nval (sim_opFieldAddr hA)
  | field t x i => unfold execOp; rw [ho]; exact sim_nval (sim_opField hA)
  | indexAddr t x i => unfold execOp; rw [ho]; exact sim_nval (sim_opIndexAddr hA)
  | index t x i => unfold execOp; rw [ho]; exact sim_nval (sim_opIndex hA)
  | lookup t x i ok =>
    unfold execOp; rw [ho]
    refine sim_nval ?_
    unfold opLookup evM
    exact sim_opt fun v hv => sim_opt fun u hu => sim_lookupB (eval_rel hA hv) (eval_rel hA hu)
  | mapUpdate t m k x =>
    unfold execOp; rw [ho]
    refine sim_nunit ?_
    unfold opMapUpd evM
    exact sim_opt fun v hv => sim_opt fun u hu => sim_opt fun z hz => sim_mapUpdB (eval_rel hA hv) (eval_rel hA hu) (eval_rel hA hz)
  | extract t i => unfold execOp; rw [ho]; exact sim_nval (sim_opExtract hA)
  | call c => unfold execOp; rw [ho]; exact sim_call hN hA
  | defer c => unfold execOp; rw [ho]; exact sim_defer hA
  | _ => exact hno
end Go.Ev
