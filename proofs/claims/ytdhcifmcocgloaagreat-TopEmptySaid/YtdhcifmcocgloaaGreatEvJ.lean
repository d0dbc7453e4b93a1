/- Operations side by side (1): operands, moves, variables, addresses, arithmetic, functions. -/
import Derived.Test.YtdhcifmcocgloaaGreatEvI
set_option linter.unusedSimpArgs false
set_option linter.unusedVariables false
namespace Go.Ev
variable {P : Program} {base : Nat} {ρ0 ρ : Rho}

/-! ### frames -/
def DRel (ρ : Rho) (p : FuncId × List V) (d : Deferred) : Prop := ∃ cap dargs l, d = { target := .fn (.func p.1) cap, args := dargs } ∧ dargs ++ cap = ⟨l⟩ ∧ VsRel ρ p.2 l
def DsRel (ρ : Rho) : List (FuncId × List V) → List Deferred → Prop
  | [], l => l = []
  | p :: ps, l => ∃ d r, l = d :: r ∧ DRel ρ p d ∧ DsRel ρ ps r
theorem DsRel.mono {ρ ρ' : Rho} (he : Grow ρ ρ') : ∀ {ps : List (FuncId × List V)} {l : List Deferred}, DsRel ρ ps l → DsRel ρ' ps l
  | [], _, h => h
  | _ :: _, _, h => by
    obtain ⟨d, r, h1, ⟨c, a, l, h2, h3, h4⟩, h5⟩ := h
    exact ⟨d, r, h1, ⟨c, a, l, h2, h3, h4.mono he⟩, DsRel.mono he h5⟩

structure ARel (ρ : Rho) (a : A) (act : Act) : Prop where
  size : act.tmps.size = a.sz
  tmp : ∀ i, VRel ρ (a.at i) (act.tmps.getD i undef)
  dfr : DsRel ρ a.d act.defers
theorem ARel.mono {ρ ρ' : Rho} {a : A} {act : Act} (h : ARel ρ a act) (he : Grow ρ ρ') : ARel ρ' a act := ⟨h.size, fun i => (h.tmp i).mono he, h.dfr.mono he⟩

theorem eval_rel {a : A} {act : Act} (hA : ARel ρ a act) {x : Operand} {v : V} (h : a.eval x = some v) : VRel ρ v (act.eval x) := by
  cases x with
  | tmp t =>
    have h' : some (a.at t) = some v := h
    simp only [Option.some.injEq] at h'
    subst h'
    exact hA.tmp t
  | const c =>
    cases hc : ofValue c with
    | none =>
      exfalso
      unfold A.eval cOpd at h
      simp only [hc] at h
      cases h
    | some w =>
      unfold A.eval cOpd at h
      simp only [hc] at h
      have h' : some w = some v := h
      simp only [Option.some.injEq] at h'
      subst h'
      exact ofValue_rel c hc
  | global g => cases (show none = some v from h)
  | func f =>
    have h' : some (V.fn f [] []) = some v := h
    simp only [Option.some.injEq] at h'
    subst h'
    simp only [VRel]
    exact ⟨[], [], rfl, VsRel.nil, VsRel.nil⟩
theorem evals_rel {a : A} {act : Act} (hA : ARel ρ a act) : ∀ {xs : List Operand} {vs : List V}, a.evals xs = some vs → VsRel ρ vs (xs.map act.eval)
  | [], vs, h => by simp only [A.evals, Option.some.injEq] at h; subst h; exact VsRel.nil
  | x :: xs, vs, h => by
    simp only [A.evals] at h
    split at h
    · cases h
    · rename_i v hv
      split at h
      · cases h
      · rename_i ys hys
        simp only [Option.some.injEq] at h
        subst h
        exact VsRel.cons (eval_rel hA hv) (evals_rel hA hys)
def PsRel (ρ : Rho) : List (Nat × V) → List (Nat × Value) → Prop
  | [], l => l = []
  | (i, v) :: ps, l => ∃ u r, l = (i, u) :: r ∧ VRel ρ v u ∧ PsRel ρ ps r
theorem evalPairs_rel {a : A} {act : Act} (hA : ARel ρ a act) : ∀ {xs : List (Nat × Operand)} {vs : List (Nat × V)}, a.evalPairs xs = some vs → PsRel ρ vs (xs.map fun (i, x) => (i, act.eval x))
  | [], vs, h => by simp only [A.evalPairs, Option.some.injEq] at h; subst h; rfl
  | (i, x) :: xs, vs, h => by
    simp only [A.evalPairs] at h
    split at h
    · cases h
    · rename_i v hv
      split at h
      · cases h
      · rename_i ys hys
        simp only [Option.some.injEq] at h
        subst h
        exact ⟨_, _, rfl, eval_rel hA hv, evalPairs_rel hA hys⟩

variable {a : A} {act : Act}

theorem sim_evM (hA : ARel ρ0 a act) {x : Operand} : SimV P base ρ0 (evM a x) (pure (act.eval x)) := by
  unfold evM
  exact sim_optr fun v hv => sim_ret fun ρ hg => (eval_rel hA hv).mono hg

theorem sim_opPick (hA : ARel ρ0 a act) {c x y : Operand} : SimV P base ρ0 (opPick a c x y) (do pure (if ← asBool (act.eval c) then act.eval x else act.eval y)) := by
  unfold opPick evM
  refine sim_opt fun v hv => ?_
  have hr := eval_rel hA hv
  cases v with
  | bool b =>
    simp only [VRel] at hr
    refine sim_run (s' := pure (if b then act.eval x else act.eval y)) (fun w => by rw [hr]; simp [asBool]) ?_
    show SimV P base ρ0 (cond b (evM a x) (evM a y)) _
    cases b
    · exact sim_evM hA
    · exact sim_evM hA
  | _ => exact sim_no

theorem sim_opAlloc {t : TypeId} : SimV P base ρ0 (opAlloc P t) (Instr.alloc t true (.tuple #[])) := by
  unfold opAlloc
  refine sim_opt fun z hz => ?_
  obtain ⟨u, hu, hr⟩ := zeroV_run hz
  refine sim_run (s' := newVar t u >>= fun a => pure (.pointer (some a))) (fun w => by simp [Instr.alloc, hu]) ?_
  intro st v st' hm ρ w he hrel hf
  obtain ⟨b, w', ρ', e1, q, o⟩ := sim_newVar (P := P) (base := base) (t := t) (hr ρ0) st v st' hm ρ w he hrel hf
  exact ⟨_, w', ρ', by rw [Sem.run_bind, e1]; rfl, q, o⟩
theorem sim_opBox (hA : ARel ρ0 a act) {t : TypeId} {x : Operand} : SimV P base ρ0 (bnd (evM a x) (newVarB t)) (Instr.box t (act.eval x)) := by
  unfold evM
  refine sim_opt fun z hz => ?_
  intro st v st' hm ρ w he hrel hf
  obtain ⟨b, w', ρ', e1, q, o⟩ := sim_newVar (P := P) (base := base) (t := t) (eval_rel hA hz) st v st' hm ρ w he hrel hf
  refine ⟨_, w', ρ', ?_, q, o⟩
  simp only [Instr.box, Sem.run_bind, e1]
  rfl

theorem sim_opLoad (hA : ARel ρ0 a act) {t : TypeId} {x : Operand} : SimV P base ρ0 (opLoad P a t x) (Instr.loadAt t (act.eval x)) := by
  unfold opLoad evM
  refine sim_opt fun v hv => ?_
  have hr := eval_rel hA hv
  cases v with
  | ptr b off =>
    simp only [VRel] at hr
    obtain ⟨blk, sz, h1, h2⟩ := hr
    refine sim_run (s' := loadVar t ⟨blk, off, none⟩) (fun w => by rw [h2]; simp [Instr.loadAt, Instr.sureAddr]) ?_
    exact sim_loadVar h1
  | _ => exact sim_no
theorem sim_opStore (hA : ARel ρ0 a act) {t : TypeId} {x y : Operand} : SimU P base ρ0 (opStore P a t x y) (Instr.storeAt t (act.eval x) (act.eval y)) := by
  unfold opStore evM
  refine sim_opt fun v hv => sim_opt fun p hp => ?_
  have hr := eval_rel hA hp
  cases p with
  | ptr b off =>
    simp only [VRel] at hr
    obtain ⟨blk, sz, h1, h2⟩ := hr
    refine sim_run (s' := storeVar t ⟨blk, off, none⟩ (act.eval y)) (fun w => by rw [h2]; simp [Instr.storeAt, Instr.sureAddr]) ?_
    exact sim_storeVar h1 (eval_rel hA hv)
  | _ => exact sim_no

theorem fieldOf_und {t : TypeId} {i : Nat} {f : Field} (h : fieldOf P t i = some f) : ∃ fs, P.underlying t = some (.struct fs) ∧ fs[i]? = some f := by
  unfold fieldOf at h
  split at h
  · rename_i fs hu; exact ⟨fs, hu, h⟩
  · cases h
theorem sim_opFieldAddr (hA : ARel ρ0 a act) {t : TypeId} {x : Operand} {i : Nat} : SimV P base ρ0 (opFieldAddr P a t x i) (Instr.fieldAt t (act.eval x) i) := by
  unfold opFieldAddr evM
  refine sim_opt fun v hv => ?_
  have hr := eval_rel hA hv
  cases v with
  | ptr b off =>
    simp only [VRel] at hr
    obtain ⟨blk, sz, h1, h2⟩ := hr
    refine sim_opt (P := P) (f := addOff b off) fun o ho => ?_
    unfold fieldOff at ho
    split at ho
    · cases ho
    · rename_i f hf
      split at ho
      · rename_i n hn
        cases hz : Nat.beq n 0 with
        | true => rw [hz] at ho; cases ho
        | false =>
          rw [hz] at ho
          simp only [cond_false, Option.some.injEq] at ho
          subst ho
          obtain ⟨fs, hu, hfi⟩ := fieldOf_und hf
          have hne : ¬ n = 0 := fun e => by subst e; cases hz
          unfold addOff
          rw [force_eq]
          refine sim_pure (b := .pointer (some ⟨blk, off + f.offset, none⟩)) (fun w => ?_) fun ρ hg => ?_
          · rw [h2]
            simp only [Instr.fieldAt, Sem.run_bind, run_underlying hu, Result.andThen_ok, hfi, Instr.sureAddr, Sem.run_pure, fieldPlace, szOf_run hn, hne, if_false, Addr.add_lit]
          · simp only [VRel]; exact ⟨blk, sz, hg _ _ h1, rfl⟩
      · cases ho
  | _ => exact sim_no

theorem sim_opField (hA : ARel ρ0 a act) {t : TypeId} {x : Operand} {i : Nat} : SimV P base ρ0 (opField P a t x i) (Instr.field t (act.eval x) i) := by
  unfold opField evM
  refine sim_opt fun v hv => ?_
  have hr := eval_rel hA hv
  cases v with
  | agg cs =>
    simp only [VRel] at hr
    obtain ⟨l, h1, h2⟩ := hr
    refine sim_opt (P := P) (f := fun (f : Field) => opt 139 (partV P f.type cs f.offset)) fun f hf => sim_optr fun u hu => ?_
    obtain ⟨fs, hun, hfi⟩ := fieldOf_und hf
    obtain ⟨q, hq, hr⟩ := partV_run h2 hu
    refine sim_pure (b := q) (fun w => ?_) fun ρ hg => hr.mono hg
    rw [h1]
    simp only [Instr.field, Sem.run_bind, run_underlying hun, Result.andThen_ok, hfi, asAgg, Sem.run_pure, hq]
  | _ => exact sim_no

theorem asNat_rel {v : V} {n : Nat} {u : Value} (h : asNat v = some n) (hr : VRel ρ v u) : ∃ k, u = .int k (n : Int) := by
  obtain ⟨k, rfl⟩ := asNat_int h
  simp only [VRel] at hr
  exact ⟨k, hr⟩

theorem sim_opIndexAddr (hA : ARel ρ0 a act) {t : TypeId} {x i : Operand} : SimV P base ρ0 (opIndexAddr P a t x i) (Instr.indexAt t (act.eval x) (act.eval i)) := by
  unfold opIndexAddr evM
  refine sim_opt fun v hv => sim_opt fun iv hi => sim_optr fun u hu => ?_
  have hr := eval_rel hA hv
  have hri := eval_rel hA hi
  unfold indexAddrV at hu
  split at hu
  · cases hu
  · rename_i n hn
    obtain ⟨k, hk⟩ := asNat_rel hn hri
    have h0 : (0 : Int) ≤ (n : Int) := by omega
    cases v with
    | ptr b off =>
      simp only [VRel] at hr
      obtain ⟨blk, sz, h1, h2⟩ := hr
      simp only [idxPtr] at hu
      split at hu
      · rename_i len e hun
        split at hu
        · rename_i es hes
          unfold idxAt at hu
          cases hb : Nat.blt n len with
          | false => rw [hb] at hu; cases hu
          | true =>
            rw [hb] at hu
            simp only [cond_true, force_eq, Option.some.injEq] at hu
            subst hu
            have hlt : n < len := by simpa [Nat.blt_eq] using hb
            refine sim_pure (b := .pointer (some ⟨blk, off + n * es, none⟩)) (fun w => ?_) fun ρ hg => ?_
            · rw [h2, hk]
              simp [Instr.indexAt, asIntOf, run_underlying hun, Instr.sureAddr, h0, hlt, szOf_run hes, Addr.add_lit]
            · simp only [VRel]; exact ⟨blk, sz, hg _ _ h1, rfl⟩
        · cases hu
      · cases hu
    | sl b off len cap =>
      simp only [VRel] at hr
      obtain ⟨blk, sz, c, h1, h2, h3⟩ := hr
      simp only [idxSl] at hu
      split at hu
      · rename_i e hun
        split at hu
        · rename_i es hes
          unfold idxAt at hu
          cases hb : Nat.blt n len with
          | false => rw [hb] at hu; cases hu
          | true =>
            rw [hb] at hu
            simp only [cond_true, force_eq, Option.some.injEq] at hu
            subst hu
            have hlt : n < len := by simpa [Nat.blt_eq] using hb
            refine sim_pure (b := .pointer (some ⟨blk, off + n * es, none⟩)) (fun w => ?_) fun ρ hg => ?_
            · rw [h2, hk]
              simp [Instr.indexAt, asIntOf, run_underlying hun, h0, hlt, szOf_run hes, Addr.add_lit]
            · simp only [VRel]; exact ⟨blk, sz, hg _ _ h1, rfl⟩
        · cases hu
      · cases hu
    | _ => cases hu

theorem sim_opIndex (hA : ARel ρ0 a act) {t : TypeId} {x i : Operand} : SimV P base ρ0 (opIndex P a t x i) (Instr.index t (act.eval x) (act.eval i)) := by
  unfold opIndex evM
  refine sim_opt fun v hv => sim_opt fun iv hi => sim_opt fun n hn => sim_optr fun u hu => ?_
  have hr := eval_rel hA hv
  obtain ⟨k, hk⟩ := asNat_rel hn (eval_rel hA hi)
  have h0 : (0 : Int) ≤ (n : Int) := by omega
  cases v with
  | str s =>
    simp only [VRel] at hr
    obtain ⟨b, h1, h2⟩ := hr
    simp only [indexV] at hu
    split at hu
    · rename_i hun
      rw [lGet_eq] at hu
      split at hu
      · rename_i c hc
        simp only [Option.some.injEq] at hu
        subst hu
        rw [← h2] at hc
        simp only [List.getElem?_map, Option.map_eq_some_iff] at hc
        obtain ⟨q, hq, rfl⟩ := hc
        refine sim_pure (b := .int .u8 (q.toNat : Int)) (fun w => ?_) fun ρ hg => ?_
        · rw [h1, hk]
          have hb : b[n]? = some q := by
            have hlt : n < b.data.size := by
              have := (List.getElem?_eq_some_iff.1 hq).1
              simpa using this
            have e : b[n]? = some b[n] := getElem?_pos b n hlt
            rw [e]
            have e2 := (List.getElem?_eq_some_iff.1 hq).2
            simp only [Array.getElem_toList] at e2
            exact congrArg some e2
          simp [Instr.index, asIntOf, run_underlying hun, h0, hb]
        · simp only [VRel, byteV]; rfl
      · cases hu
    · cases hu
  | agg cs =>
    simp only [VRel] at hr
    obtain ⟨l, h1, h2⟩ := hr
    simp only [indexV] at hu
    split at hu
    · rename_i len e hun
      split at hu
      · rename_i es hes
        cases hb : Nat.blt n len with
        | false => rw [hb] at hu; cases hu
        | true =>
          rw [hb] at hu
          simp only [cond_true] at hu
          have hlt : n < len := by simpa [Nat.blt_eq] using hb
          obtain ⟨q, hq, hr⟩ := partV_run h2 hu
          have hq' : ∀ w, (part e ⟨l⟩ (n * es)).run P w = .ok q w := hq
          refine sim_pure (b := q) (fun w => ?_) fun ρ hg => hr.mono hg
          rw [h1, hk]
          simp [Instr.index, asIntOf, run_underlying hun, h0, hlt, szOf_run hes, hq']
      · cases hu
    · cases hu
  | _ => cases hu

theorem sim_opExtract (hA : ARel ρ0 a act) {x : Operand} {i : Nat} : SimV P base ρ0 (opExtract a x i) (Instr.extract (act.eval x) i) := by
  unfold opExtract evM
  refine sim_opt fun v hv => ?_
  have hr := eval_rel hA hv
  cases v with
  | tup vs =>
    simp only [VRel] at hr
    obtain ⟨l, h1, h2⟩ := hr
    refine sim_optr fun u hu => ?_
    rw [lGet_eq] at hu
    obtain ⟨q, hq, hr⟩ := h2.get i u hu
    refine sim_pure (b := q) (fun w => ?_) fun ρ hg => hr.mono hg
    rw [h1]
    have : (⟨l⟩ : Array Value)[i]? = some q := by simpa using hq
    simp [Instr.extract, this]
  | _ => exact sim_no

theorem sim_opFunc (hA : ARel ρ0 a act) {f : FuncId} {xs ys : Array Operand} : SimV P base ρ0 (opFunc a f xs ys) (Instr.makeFunc (.func f) (xs.map act.eval) (ys.map act.eval)) := by
  unfold opFunc
  refine sim_opt fun fs hfs => sim_opt fun cs hcs => ?_
  refine sim_pure (b := .func (.func f) (xs.map act.eval) (ys.map act.eval)) (fun w => rfl) fun ρ hg => ?_
  simp only [VRel]
  refine ⟨xs.toList.map act.eval, ys.toList.map act.eval, ?_, (evals_rel hA hfs).mono hg, (evals_rel hA hcs).mono hg⟩
  congr 1 <;> apply Array.ext' <;> simp

theorem sim_opUn (hA : ARel ρ0 a act) {op : UnOp} {x : Operand} : SimV P base ρ0 (opUn a op x) (Op.unary op (act.eval x)) := by
  unfold opUn evM
  refine sim_opt fun v hv => sim_optr fun u hu => ?_
  have hr := eval_rel hA hv
  cases op with
  | neg =>
    cases v with
    | int k n =>
      simp only [VRel] at hr
      simp only [unV, intV_eq, wrapI_eq, subI_eq, Option.some.injEq] at hu
      subst hu
      refine sim_pure (b := .int k (k.wrap (0 - n))) (fun w => by rw [hr]; simp [Op.unary, Op.intArith]) fun ρ hg => by simp only [VRel]
    | _ => cases hu
  | xor =>
    cases v with
    | int k n =>
      simp only [VRel] at hr
      simp only [unV, intV_eq, wrapN_eq, Option.some.injEq] at hu
      subst hu
      refine sim_pure (b := .int k (k.wrap ((Nat.xor (bitsOf k n) (Nat.sub (full k) 1) : Nat) : Int))) (fun w => ?_) fun ρ hg => by simp only [VRel]
      rw [hr]
      have e : (BitVec.ofInt k.bits (if k.signed then -1 else k.max) ^^^ BitVec.ofInt k.bits n).toNat = Nat.xor (bitsOf k n) (Nat.sub (full k) 1) := by
        rw [BitVec.toNat_xor, ← bitsOf_eq k n, Nat.xor_comm]
        congr 1
        cases k <;> decide
      simp only [Op.unary, Op.intBits, e]
      rfl
    | _ => cases hu
  | not =>
    cases v with
    | bool b =>
      simp only [VRel] at hr
      simp only [unV, Option.some.injEq] at hu
      subst hu
      refine sim_pure (b := .bool (!b)) (fun w => by rw [hr]; simp [Op.unary]) fun ρ hg => by simp only [VRel]
    | _ => cases hu
  | plus => cases hu

theorem eqGuard_plain {op : BinOp} {t : TypeId} {x y : Operand} {u v : Value} (hu : ∀ cs, u ≠ .agg cs) (hn : u ≠ .nilIface) (w : World) : (eqGuard op t x y u v).run P w = .ok () w := by
  cases op <;> cases u <;> simp_all [eqGuard]

def odd (p : Value) : Bool := match p with
  | .int _ _ => false
  | .float _ _ => false
  | .complex _ _ _ => false
  | .string _ => false
  | .nilIface => false
  | _ => true
theorem binOp_eql {p : Value} (hp : odd p = true) (t : TypeId) (q : Value) : binOp .eql t p q = (do pure (.bool (← Op.equal t p q))) := by
  cases p <;> first | (cases hp; done) | (cases q <;> rfl)
theorem binOp_neq {p : Value} (hp : odd p = true) (t : TypeId) (q : Value) : binOp .neq t p q = (do pure (.bool (!(← Op.equal t p q)))) := by
  cases p <;> first | (cases hp; done) | (cases q <;> rfl)

theorem eqGuard_odd {op : BinOp} {t : TypeId} {x y : Operand} {p q : Value} (hg : P.eqGuardType P.depth t = false) (hp : odd p = true) (w : World) : (eqGuard op t x y p q).run P w = .ok () w := by
  cases p <;> first
    | (cases hp; done)
    | (cases q <;> first | exact run_eqGuard_agg w op t x y _ _ hg | (exact eqGuard_plain (by intro cs; exact Value.noConfusion) (by exact Value.noConfusion) w) | (cases op <;> rfl))

theorem sim_binEq {op : BinOp} {t : TypeId} {x y : Operand} {v u r : V} {p q : Value} (hx : VRel ρ0 v p) (hy : VRel ρ0 u q) (hp : odd p = true) (h : binEq P op t v u = some r) :
    SimV P base ρ0 (ret r) (do eqGuard op t x y p q; binOp op t p q) := by
  unfold binEq at h
  split at h
  · cases hg : P.eqGuardType P.depth t with
    | true => rw [hg] at h; cases h
    | false =>
      rw [hg] at h
      simp only [cond_false] at h
      unfold boolV at h
      split at h
      · rename_i b hb
        simp only [Option.some.injEq] at h
        subst h
        have hrun := eqV_run 10000 ρ0 t v u b p q hb hx hy
        refine sim_pure (b := .bool (xor false b)) (fun w => ?_) fun ρ hg' => by simp only [VRel]
        rw [Sem.run_bind, eqGuard_odd hg hp, Result.andThen_ok, binOp_eql hp]
        simp [Op.equal, Op.maxDepth, hrun]
      · cases h
  · cases hg : P.eqGuardType P.depth t with
    | true => rw [hg] at h; cases h
    | false =>
      rw [hg] at h
      simp only [cond_false] at h
      unfold boolV at h
      split at h
      · rename_i b hb
        simp only [Option.some.injEq] at h
        subst h
        have hrun := eqV_run 10000 ρ0 t v u b p q hb hx hy
        refine sim_pure (b := .bool (xor true b)) (fun w => ?_) fun ρ hg' => by simp only [VRel]
        rw [Sem.run_bind, eqGuard_odd hg hp, Result.andThen_ok, binOp_neq hp]
        simp [Op.equal, Op.maxDepth, hrun]
      · cases h
  · cases h

theorem binEq_none {op : BinOp} {t : TypeId} {v u r : V} (hv : v = .nili ∨ v = .nilm ∨ (∃ c, v = .map c) ∨ (∃ c, v = .tup c)) (h : binEq P op t v u = some r) : False := by
  have he : eqV P 10000 t v u = none := by rcases hv with rfl | rfl | ⟨c, rfl⟩ | ⟨c, rfl⟩ <;> rfl
  unfold binEq at h
  rw [he] at h
  split at h
  · cases hg : P.eqGuardType P.depth t <;> rw [hg] at h <;> cases h
  · cases hg : P.eqGuardType P.depth t <;> rw [hg] at h <;> cases h
  · cases h

theorem sim_opBin (hA : ARel ρ0 a act) {op : BinOp} {t : TypeId} {x y : Operand} :
    SimV P base ρ0 (opBin P a op t x y) (do eqGuard op t x y (act.eval x) (act.eval y); binOp op t (act.eval x) (act.eval y)) := by
  unfold opBin evM
  refine sim_opt fun v hv => sim_opt fun u hu => sim_optr fun r hr => ?_
  have hx := eval_rel hA hv
  have hy := eval_rel hA hu
  generalize act.eval x = p at *
  generalize act.eval y = q at *
  unfold binV at hr
  split at hr
  · rename_i k n
    split at hr
    · rename_i k' m
      simp only [VRel] at hx hy
      subst hx
      subst hy
      unfold binInt at hr
      cases hs : isSh op with
      | true =>
        rw [hs] at hr
        simp only [cond_true] at hr
        split at hr
        · rename_i c hc
          obtain ⟨k2, hk2⟩ := asNat_int hc
          injection hk2 with h1 h2
          subst h2
          obtain ⟨z, hz, hzr⟩ := binSh_run (P := P) (t := t) (k' := k') hr
          refine sim_pure (b := z) (fun w => ?_) fun ρ hg => hzr ρ
          rw [Sem.run_bind, eqGuard_plain (by simp) (by simp) w, Result.andThen_ok, hz]
        · cases hr
      | false =>
        rw [hs] at hr
        simp only [cond_false] at hr
        cases hk : kBeq k k' with
        | false => rw [hk] at hr; cases hr
        | true =>
          rw [hk] at hr
          simp only [cond_true] at hr
          have := kBeq_eq.1 hk
          subst this
          obtain ⟨z, hz, hzr⟩ := binI_run (P := P) (t := t) hs hr
          refine sim_pure (b := z) (fun w => ?_) fun ρ hg => hzr ρ
          rw [Sem.run_bind, eqGuard_plain (by simp) (by simp) w, Result.andThen_ok, hz]
    · cases hr
  · rename_i s
    split at hr
    · rename_i s'
      simp only [VRel] at hx hy
      obtain ⟨b1, rfl, h1⟩ := hx
      obtain ⟨b2, rfl, h2⟩ := hy
      have hb : beqNats s s' = (b1.toList == b2.toList) := by rw [← h1, ← h2]; exact bytes_beq b1 b2
      unfold binStr at hr
      split at hr
      · simp only [Option.some.injEq] at hr
        subst hr
        refine sim_pure (b := .bool (b1.toList == b2.toList)) (fun w => ?_) fun ρ hg => by simp only [VRel, hb]
        rw [Sem.run_bind, eqGuard_plain (by simp) (by simp) w, Result.andThen_ok]
        rfl
      · simp only [Option.some.injEq] at hr
        subst hr
        refine sim_pure (b := .bool (!(b1.toList == b2.toList))) (fun w => ?_) fun ρ hg => by simp only [VRel, hb]
        rw [Sem.run_bind, eqGuard_plain (by simp) (by simp) w, Result.andThen_ok]
        rfl
      · cases hr
    · cases hr
  · cases v with
    | nili => exact (binEq_none (Or.inl rfl) hr).elim
    | nilm => exact (binEq_none (Or.inr (Or.inl rfl)) hr).elim
    | map c => exact (binEq_none (Or.inr (Or.inr (Or.inl ⟨c, rfl⟩))) hr).elim
    | tup vs => exact (binEq_none (Or.inr (Or.inr (Or.inr ⟨vs, rfl⟩))) hr).elim
    | int k n => rename_i h1 h2; exact (h1 k n rfl).elim
    | str s => rename_i h1 h2; exact (h2 s rfl).elim
    | agg cs => refine sim_binEq hx hy ?_ hr; simp only [VRel] at hx; obtain ⟨l, rfl, _⟩ := hx; rfl
    | bool b => refine sim_binEq hx hy ?_ hr; simp only [VRel] at hx; subst hx; rfl
    | nilp => refine sim_binEq hx hy ?_ hr; simp only [VRel] at hx; subst hx; rfl
    | ptr c o => refine sim_binEq hx hy ?_ hr; simp only [VRel] at hx; obtain ⟨_, _, _, rfl⟩ := hx; rfl
    | nils => refine sim_binEq hx hy ?_ hr; simp only [VRel] at hx; subst hx; rfl
    | emp => refine sim_binEq hx hy ?_ hr; simp only [VRel] at hx; obtain ⟨_, _, rfl⟩ := hx; rfl
    | sl c o n cap => refine sim_binEq hx hy ?_ hr; simp only [VRel] at hx; obtain ⟨_, _, _, _, rfl, _⟩ := hx; rfl
    | nilf => refine sim_binEq hx hy ?_ hr; simp only [VRel] at hx; subst hx; rfl
    | fn f l1 l2 => refine sim_binEq hx hy ?_ hr; simp only [VRel] at hx; obtain ⟨_, _, rfl, _⟩ := hx; rfl
end Go.Ev
