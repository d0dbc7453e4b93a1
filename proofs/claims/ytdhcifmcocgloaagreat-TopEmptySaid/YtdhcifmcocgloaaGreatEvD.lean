/- What code and calls touch, by induction on the fuel. -/
import Derived.Test.YtdhcifmcocgloaaGreatEvC
set_option linter.unusedSimpArgs false
set_option linter.unusedVariables false
namespace Go.Ev
variable {P : Program} {α : Type}

theorem good_evalOp {a : A} {o : Oper} : Good (evalOp P a o) := by
  obtain ⟨dst, op, ty, pos, after, guard⟩ := o
  unfold evalOp
  cases op with
  | call c =>
    obtain ⟨callee, args, ts⟩ := c
    cases callee with
    | value f => exact good_bnd (good_opt _ _) fun _ => good_opCallV
    | invoke r m => exact good_no _
    | builtin b => exact good_bnd (good_opt _ _) fun _ => good_nval good_builtinB
  | defer c =>
    obtain ⟨callee, args, ts⟩ := c
    cases callee with
    | value f => exact good_bnd (good_opt _ _) fun _ => good_opDeferV
    | invoke r m => exact good_no _
    | builtin b => exact good_no _
  | move x => exact good_nval good_evM
  | assign x => exact good_nval good_evM
  | pick c x y => exact good_nval good_opPick
  | alloc t => exact good_nval good_opAlloc
  | box t x => exact good_nval (good_bnd good_evM fun _ => good_newVarB)
  | build t ps => exact good_nval good_opBuild
  | buildSlice t n ps => exact good_nval good_opBuildSlice
  | load t x => exact good_nval good_opLoad
  | store t x v => exact good_nunit good_opStore
  | nilCheck x => exact good_nval (good_bnd good_evM fun _ => good_nilChk)
  | binOp op t x y u => exact good_nval good_opBin
  | unOp op t x => exact good_nval good_opUn
  | convert s d x => exact good_nval good_opConv
  | makeFunc fn f c => cases fn <;> first | exact good_nval good_opFunc | exact good_no _
  | makeMap t r => cases r <;> first | exact good_nval good_opMakeMap | exact good_no _
  | makeSlice t l c => exact good_nval good_opMakeSlice
  | slice t x lo hi mx => exact good_nval good_opSlice
  | fieldAddr t x i => exact good_nval good_opFieldAddr
  | field t x i => exact good_nval good_opField
  | indexAddr t x i => exact good_nval good_opIndexAddr
  | index t x i => exact good_nval good_opIndex
  | lookup t x i ok => exact good_nval good_opLookup
  | mapUpdate t m k x => exact good_nunit good_opMapUpd
  | extract t i => exact good_nval good_opExtract
  | _ => exact good_no _

structure SelfGood (sf : Self) : Prop where
  code : ∀ c a, Good (sf.code c a)
  call : ∀ f args, Good (sf.call f args)
  dcall : ∀ f args, Good (sf.dcall f args)

section
variable {self : Self} (hs : SelfGood self)
include hs

theorem good_doNx {a : A} {dst : Option Tmp} {n : Nx} : Good (doNx self a dst n) := by
  cases n with
  | val v => exact good_putM
  | skip => exact good_putM
  | call f args => exact good_bnd (hs.call f args) fun _ => good_putM
  | dfr f args => exact good_putM
theorem good_doOp {ops : List Oper} {a : A} {o : Oper} : Good (doOp P self ops a o) :=
  good_cond (good_bnd good_evalOp fun _ => good_doNx hs) good_putM
theorem good_doOps {ops : List Oper} (l : List Oper) : ∀ a, Good (doOps P self ops l a) := by
  induction l with
  | nil => intro a; exact good_ret _
  | cons o rest ih => intro a; exact good_bnd (good_doOp hs) ih

omit hs in
theorem drawOps_cons {ops : List Oper} {ps : List Nat} {o : Oper} {rest : List Oper} {ms : List (Nat × Nat)} {a : A} {h : Tr B} {n r w : Nat} :
    drawOps P self ops ps (o :: rest) ms a ⟨h, n, r, w⟩ = match doOp P self ops a o ⟨h, n, 0, 0⟩ with
      | .no e => .no e
      | .ok a1 s1 => drawOps P self ops ps rest (ms ++ [(s1.r, s1.w)]) a1 ⟨s1.h, s1.n, r ||| s1.r, w ||| s1.w⟩ := by
  show bnd (clearM (doOp P self ops a o)) (mergeM r w ms (drawOps P self ops ps rest)) ⟨h, n, r, w⟩ = _
  unfold bnd
  have e : clearM (doOp P self ops a o) ⟨h, n, r, w⟩ = doOp P self ops a o ⟨h, n, 0, 0⟩ := rfl
  rw [e]
  cases doOp P self ops a o ⟨h, n, 0, 0⟩ with
  | no e => rfl
  | ok a1 s1 =>
    cases s1 with
    | mk h1 n1 r1 w1 =>
      show mergeM r w ms (drawOps P self ops ps rest) a1 ⟨h1, n1, r1, w1⟩ = _
      unfold mergeM
      simp only [force_eq, lor_eq, lApp_eq]

theorem good_drawOps {ops : List Oper} {ps : List Nat} (l : List Oper) : ∀ ms a, Good (drawOps P self ops ps l ms a) := by
  induction l with
  | nil => intro ms a; exact good_cond (good_ret _) (good_no _)
  | cons o rest ih =>
    intro ms a h n r w b s' hb
    rw [drawOps_cons] at hb
    cases h1 : doOp P self ops a o ⟨h, n, 0, 0⟩ with
    | no e => rw [h1] at hb; cases hb
    | ok a1 s1 =>
      rw [h1] at hb
      obtain ⟨dr1, dw1, T1⟩ := good_doOp (P := P) hs h n 0 0 a1 s1 h1
      obtain ⟨h', n', r', w'⟩ := s1
      have er : r' = dr1 := by have := T1.hr; simpa using this
      have ew : w' = dw1 := by have := T1.hw; simpa using this
      subst er; subst ew
      simp only at hb
      obtain ⟨dr2, dw2, T2⟩ := ih _ a1 h' n' _ _ b s' hb
      refine ⟨r' ||| dr2, w' ||| dw2, ?_, ?_, Nat.le_trans T1.hn T2.hn, fun x hx => ?_, fun hfr x hx => ?_, fun g r2 w2 hg => ?_⟩
      · rw [T2.hr, Nat.or_assoc]
      · rw [T2.hw, Nat.or_assoc]
      · rw [testBit_or, Bool.or_eq_false_iff] at hx
        exact (T2.keep x hx.2).trans (T1.keep x hx.1)
      · have f1 := T1.fresh hfr
        have f2 := T2.fresh (fun y hy => (f1 y hy).1) x hx
        have f3 := f1 x (Nat.le_trans T2.hn hx)
        exact ⟨f2.1, by rw [testBit_or, f2.2.1, f3.2.1]; rfl, by rw [testBit_or, f2.2.2, f3.2.2]; rfl⟩
      · obtain ⟨g1, e1, k1⟩ := T1.local_ g 0 0 (fun x hx => hg x (by rw [testBit_or, hx]; rfl))
        obtain ⟨g2, e2, k2⟩ := T2.local_ g1 (r2 ||| r') (w2 ||| w') (fun x hx => by
          rw [k1 x]
          by_cases hd : w'.testBit x = true
          · simp [hd]
          · simp only [hd]
            have hd' : w'.testBit x = false := by simpa using hd
            rw [T1.keep x hd']
            exact hg x (by rw [testBit_or, hx, Bool.or_true]))
        refine ⟨g2, ?_, fun x => ?_⟩
        · rw [drawOps_cons, e1]
          simp only [Nat.zero_or, Nat.or_assoc] at e2 ⊢
          exact e2
        · rw [k2 x, testBit_or, k1 x]
          by_cases hd2 : dw2.testBit x = true
          · simp [hd2]
          · have hd2' : dw2.testBit x = false := by simpa using hd2
            by_cases hd : w'.testBit x = true
            · simp [hd, hd2', T2.keep x hd2']
            · simp [hd, hd2']

theorem good_stCode {c : Code} {a : A} : Good (stCode P self c a) := by
  unfold stCode
  cases c with
  | skip => exact good_ret _
  | label l => exact good_ret _
  | region id ops draw =>
    cases draw with
    | true =>
      have key : Good ((cRegion P ops.toList true).run self a) := by
        unfold cRegion
        cases h : drawOk ops.toList with
        | true => simp only [cond_true]; exact good_bnd (good_drawOps hs _ _ _) fun _ => good_ret _
        | false => simp only [cond_false]; exact good_no _
      exact key
    | false => exact good_bnd (good_doOps hs _ _) fun _ => good_ret _
  | seq x y => exact good_bnd (hs.code x a) fun ⟨e, a'⟩ => by cases e <;> first | exact hs.code _ _ | exact good_ret _
  | cond c x y => exact good_bnd good_evM fun v => by cases v <;> first | exact good_cond (hs.code _ _) (hs.code _ _) | exact good_no _
  | block id body => exact good_bnd (hs.code body a) fun ⟨e, a'⟩ => by cases e <;> first | exact good_ret _ | exact good_cond (good_ret _) (good_ret _)
  | loop body => exact good_bnd (hs.code body a) fun ⟨e, a'⟩ => by cases e <;> first | exact hs.code _ _ | exact good_ret _
  | exit id => exact good_ret _
  | scope body => exact hs.code body a
  | ret => exact good_ret _
  | _ => exact good_no _

theorem good_runDefers (l : List (FuncId × List V)) : Good (runDefers self l) := by
  induction l with
  | nil => exact good_ret _
  | cons p rest ih => exact good_bnd (hs.dcall _ _) fun _ => ih
omit hs in
theorem good_resV {a : A} {r : ResultVar} : Good (resV P a r) := by cases r <;> first | exact good_ret _ | exact good_ldV
omit hs in
theorem good_getResults {a : A} (l : List ResultVar) : Good (getResults P a l) := by
  induction l with
  | nil => exact good_ret _
  | cons r rest ih => exact good_bnd good_resV fun _ => good_bnd ih fun _ => good_ret _
omit hs in
theorem good_results1 {fn : Func} {a : A} : Good (results1 P fn a) := good_bnd (good_getResults _) fun _ => good_ret _
theorem good_stEnd {fn : Func} {p : Ex × A} : Good (stEnd P self fn p) := by
  obtain ⟨e, a⟩ := p
  cases e <;> first | exact good_no _ | exact good_bnd (good_runDefers hs _) fun _ => good_results1
omit hs in
theorem good_stEndD {fn : Func} {p : Ex × A} : Good (stEndD P fn p) := by
  obtain ⟨e, a⟩ := p
  obtain ⟨t, d, sz⟩ := a
  cases e <;> cases d <;> first | exact good_no _ | exact good_results1
theorem good_stFn {fn : Func} {args : List V} : Good (stFn P self fn args) := by
  unfold stFn
  split
  · exact good_no _
  · exact good_bnd (hs.code _ _) fun _ => good_stEnd hs
theorem good_stFnD {fn : Func} {args : List V} : Good (stFnD P self fn args) := by
  unfold stFnD
  split
  · exact good_no _
  · exact good_bnd (hs.code _ _) fun _ => good_stEndD
variable {orc : FuncId → Option (List V → M V)} (ho : ∀ f m, orc f = some m → ∀ args, Good (m args))
include ho
theorem good_stCall {f : FuncId} {args : List V} : Good (stCall P orc self f args) := by
  unfold stCall cFn
  cases h : orc f with
  | some m => exact ho f m h args
  | none =>
    cases h2 : P.funcs[f]? with
    | none => exact good_no _
    | some fn => exact good_stFn hs
omit ho in
theorem good_stDcall {f : FuncId} {args : List V} : Good (stDcall P self f args) := by
  unfold stDcall
  split
  · exact good_no _
  · exact good_stFnD hs
end

theorem good_evN {orc : FuncId → Option (List V → M V)} (ho : ∀ f m, orc f = some m → ∀ args, Good (m args)) (n : Nat) : SelfGood (evN P orc n) := by
  induction n with
  | zero => exact ⟨fun _ _ => good_no _, fun _ _ => good_no _, fun _ _ => good_no _⟩
  | succ n ih => exact ⟨fun _ _ => good_stCode ih, fun _ _ => good_stCall ih ho, fun _ _ => good_stDcall ih⟩
end Go.Ev
