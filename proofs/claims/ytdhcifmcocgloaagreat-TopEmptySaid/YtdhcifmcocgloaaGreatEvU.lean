/- Soundness (1): operations in order, code. -/
import Derived.Test.YtdhcifmcocgloaaGreatEvT
import Derived.LoopN
import Derived.Scope
set_option linter.unusedSimpArgs false
set_option linter.unusedVariables false
namespace Go.Ev
open Go.RowKit (Below)
variable {P : Program} {base : Nat} {ρ0 ρ : Rho}

abbrev Free (ρ : Rho) (st st' : S) : Prop := ∀ x, st.n ≤ x → x < st'.n → ρ x = none

/-- what a call's evaluation tells of the model's -/
def CallOk (P : Program) (base : Nat) (f : FuncId) (m : List V → M V) : Prop :=
  ∀ args st v st', m args st = .ok v st' → ∀ ρ w l, VsRel ρ args l → Rel ρ base st.h w → Free ρ st st' → ∀ R : Ending → World → Prop,
    (∀ ρ' w' u, Out ρ base st.n st'.n st'.h w ρ' w' → VRel ρ' v u → R (.returned u) w') → Calls P f ⟨l⟩ w R
def DcallOk (P : Program) (base : Nat) (f : FuncId) (m : List V → M V) : Prop :=
  ∀ args st v st', m args st = .ok v st' → ∀ ρ w l, VsRel ρ args l → Rel ρ base st.h w → Free ρ st st' → ∀ (u : FrameMode) (R : Ending → World → Prop),
    (∀ ρ' w' r, Out ρ base st.n st'.n st'.h w ρ' w' → R (.returned r) w') → CallsD P f ⟨l⟩ u w fun e u' w' => u' = u ∧ R e w'

def exitOf : Ex → Exit
  | .normal => .normal
  | .exit id => .exit id
  | .ret => .ret

structure SelfOk (P : Program) (base : Nat) (n : Nat) (sf : Self) : Prop where
  good : SelfGood sf
  call : ∀ f, CallOk P base f (sf.call f)
  dcall : ∀ f, DcallOk P base f (sf.dcall f)
  dbody : ∀ f args st v st', sf.dcall f args st = .ok v st' → ∃ fn c, P.funcs[f]? = some fn ∧ fn.body = some c
  code : ∀ c a st ex a' st', sf.code c a st = .ok (ex, a') st' → ∀ ρ w act, Rel ρ base st.h w → ARel ρ a act → Free ρ st st' → ∀ Q : Exit → Act → World → Prop,
    (∀ ρ' w' act', Out ρ base st.n st'.n st'.h w ρ' w' → ARel ρ' a' act' → Q (exitOf ex) act' w') → c.wp P Q act w
  loop : ∀ c a st ex a' st', sf.code (.loop c) a st = .ok (ex, a') st' → ∀ ρ w act, Rel ρ base st.h w → ARel ρ a act → Free ρ st st' → ∀ Q : Exit → Act → World → Prop,
    (∀ ρ' w' act', Out ρ base st.n st'.n st'.h w ρ' w' → ARel ρ' a' act' → Q (exitOf ex) act' w') → Code.rounds P c Q n act w

/-! ### frames -/
theorem at_set_same {t : Tr V} {d : List (FuncId × List V)} {sz i : Nat} {v : V} : (A.mk (t.set i v) d sz).at i = v := by
  show Option.rec (motive := fun _ => V) undefV (fun v => v) ((t.set i v).get i) = v
  rw [Tr.get_set_same]
theorem at_set_ne {t : Tr V} {d : List (FuncId × List V)} {sz i j : Nat} {v : V} (h : i ≠ j) : (A.mk (t.set i v) d sz).at j = (A.mk t d sz).at j := by
  show Option.rec (motive := fun _ => V) undefV (fun v => v) ((t.set i v).get j) = Option.rec (motive := fun _ => V) undefV (fun v => v) (t.get j)
  rw [Tr.get_set_ne _ _ h]
theorem undef_rel : VRel ρ undefV undef := by
  simp only [undefV, VRel]
  exact ⟨[], rfl, VsRel.nil⟩

theorem put_rel {a a' : A} {act : Act} {dst : Option Tmp} {v : V} {u : Value} {st st' : S} (hA : ARel ρ a act) (hv : VRel ρ v u) (hm : putM a dst v st = .ok a' st') : st' = st ∧ ARel ρ a' (act.put dst u) := by
  cases dst with
  | none =>
    obtain ⟨rfl, rfl⟩ := ret_ok (show (ret a : M A) st = .ok a' st' from hm)
    exact ⟨rfl, hA⟩
  | some i =>
    obtain ⟨t, d, sz⟩ := a
    have hm' : (cond (Nat.blt i sz) (ret (A.mk (t.set i v) d sz)) (no 3) : M A) st = .ok a' st' := hm
    cases hb : Nat.blt i sz with
    | false => rw [hb] at hm'; simp only [cond_false] at hm'; exact (no_ok hm').elim
    | true =>
      rw [hb] at hm'
      simp only [cond_true] at hm'
      obtain ⟨rfl, rfl⟩ := ret_ok hm'
      have hlt : i < sz := by simpa [Nat.blt_eq] using hb
      have hsz : act.tmps.size = sz := hA.size
      refine ⟨rfl, ?_, fun j => ?_, hA.dfr⟩
      · show (act.tmps.setIfInBounds i u).size = sz
        simp [hsz]
      · show VRel ρ _ ((act.tmps.setIfInBounds i u).getD j undef)
        by_cases e : i = j
        · subst e
          rw [at_set_same]
          have : (act.tmps.setIfInBounds i u).getD i undef = u := by
            have hlt2 : i < act.tmps.size := by rw [hsz]; exact hlt
            simp [Array.getD, hlt2]
          rw [this]
          exact hv
        · rw [at_set_ne e]
          have : (act.tmps.setIfInBounds i u).getD j undef = act.tmps.getD j undef := by
            simp only [Array.getD_eq_getD_getElem?, Array.getElem?_setIfInBounds, e, if_false]
          rw [this]
          exact hA.tmp j

theorem isB_rel {a : A} {act : Act} (hA : ARel ρ a act) (d : Nat) (want : Bool) : ((match act.tmps[d]? with
  | some (.bool b) => some b
  | _ => none) == some want) = isB want (a.at d) := by
  have h := hA.tmp d
  rw [Array.getD_eq_getD_getElem?] at h
  generalize a.at d = v at *
  cases ht : act.tmps[d]? with
  | none =>
    rw [ht] at h
    simp only [Option.getD_none] at h
    cases v with
    | bool b => simp only [VRel] at h; cases h
    | _ => rfl
  | some u =>
    rw [ht] at h
    simp only [Option.getD_some] at h
    cases v with
    | bool b => simp only [VRel] at h; subst h; cases b <;> cases want <;> rfl
    | int k n => simp only [VRel] at h; subst h; rfl
    | str s => simp only [VRel] at h; obtain ⟨_, rfl, _⟩ := h; rfl
    | nilp => simp only [VRel] at h; subst h; rfl
    | ptr x o => simp only [VRel] at h; obtain ⟨_, _, _, rfl⟩ := h; rfl
    | nils => simp only [VRel] at h; subst h; rfl
    | emp => simp only [VRel] at h; obtain ⟨_, _, rfl⟩ := h; rfl
    | sl x o n c => simp only [VRel] at h; obtain ⟨_, _, _, _, rfl, _⟩ := h; rfl
    | nilm => simp only [VRel] at h; subst h; rfl
    | map x => simp only [VRel] at h; obtain ⟨_, _, _, rfl⟩ := h; rfl
    | nilf => simp only [VRel] at h; subst h; rfl
    | fn f x y => simp only [VRel] at h; obtain ⟨_, _, rfl, _⟩ := h; rfl
    | nili => simp only [VRel] at h; subst h; rfl
    | agg cs => simp only [VRel] at h; obtain ⟨_, rfl, _⟩ := h; rfl
    | tup cs => simp only [VRel] at h; obtain ⟨_, rfl, _⟩ := h; rfl

theorem wanted_rel {a : A} {act : Act} (hA : ARel ρ a act) (ops : Array Oper) (o : Oper) : Region.wanted o (yielded ops act.tmps) = wantedV ops.toList a o := by
  unfold Region.wanted wantedV
  cases o.guard with
  | none => rfl
  | some p =>
    obtain ⟨j, want⟩ := p
    simp only [yielded]
    rw [lGet_eq, Array.getElem?_toList]
    cases ops[j]? with
    | none => rfl
    | some o' =>
      simp only [Option.bind_some]
      cases o'.dst with
      | none => rfl
      | some d => exact isB_rel hA d want

section
variable {n : Nat} {self : Self}

/-- one operation -/
theorem doOp_ok (hN : NoCount P) (hs : SelfOk P base n self) {ops : Array Oper} {o : Oper} {a a' : A} {st st' : S} (hm : doOp P self ops.toList a o st = .ok a' st') {w : World} {act : Act} (hr : Rel ρ base st.h w)
    (hA : ARel ρ a act) (hf : Free ρ st st') {K : Act → World → Prop} {Q : Exit → Act → World → Prop} (hK : ∀ ρ' w' act', Out ρ base st.n st'.n st'.h w ρ' w' → ARel ρ' a' act' → K act' w') :
    if Region.wanted o (yielded ops act.tmps) then o.wp P act w K Q ∨ (o.asks P act w ∧ LetsOut Q) else K (act.put o.dst undef) w := by
  rw [wanted_rel hA]
  unfold doOp at hm
  cases hw : wantedV ops.toList a o with
  | false =>
    rw [hw] at hm
    simp only [cond_false] at hm
    simp only [Bool.false_eq_true, if_false]
    obtain ⟨rfl, h2⟩ := put_rel hA undef_rel hm
    exact hK ρ w _ (Out.refl hr) h2
  | true =>
    rw [hw] at hm
    simp only [cond_true] at hm
    simp only [if_true]
    refine Or.inl ?_
    obtain ⟨nx, s1, h1, h2⟩ := bnd_ok hm
    have l1 := (good_evalOp (P := P) (a := a) (o := o)).le h1
    have l2 := (good_doNx (a := a) (dst := o.dst) (n := nx) hs.good).le h2
    obtain ⟨b, w1, ρ1, e1, q1, o1⟩ := sim_evalOp hN hA o st nx s1 h1 ρ w (Grow.refl _) hr (fun x hx hx' => hf x hx (by omega))
    have hA1 := hA.mono o1.ext
    unfold Oper.wp
    rw [e1]
    cases nx with
    | val v =>
      obtain ⟨u, rfl, hv⟩ := q1
      obtain ⟨rfl, h3⟩ := put_rel hA1 hv (show putM a o.dst v s1 = .ok a' st' from h2)
      exact hK ρ1 w1 _ o1 h3
    | skip =>
      have q1' : b = .skip := q1
      subst q1'
      obtain ⟨rfl, h3⟩ := put_rel hA1 undef_rel (show putM a o.dst undefV s1 = .ok a' st' from h2)
      exact hK ρ1 w1 _ o1 h3
    | call f args =>
      obtain ⟨l, rfl, hl⟩ := q1
      obtain ⟨v, s2, h3, h4⟩ := bnd_ok (show (bnd (self.call f args) (putM a o.dst)) s1 = .ok a' st' from h2)
      have l3 := (hs.good.call f args).le h3
      have l4 : s2.n ≤ st'.n := (good_putM (a := a) (dst := o.dst) (v := v)).le h4
      refine hs.call f args s1 v s2 h3 ρ1 w1 l hl o1.rel (fun x hx hx' => ?_) _ fun ρ2 w2 u o2 hv => ?_
      · cases hh : ρ1 x with
        | none => rfl
        | some p =>
          have := o1.new x (hf x (by omega) (by omega)) (by rw [hh]; simp)
          omega
      · obtain ⟨rfl, h5⟩ := put_rel (hA1.mono o2.ext) hv h4
        exact hK ρ2 w2 _ (o1.trans o2 l1 l3) h5
    | dfr f args =>
      obtain ⟨d, rfl, hd⟩ := q1
      have hA2 : ARel ρ1 ⟨a.t, (f, args) :: a.d, a.sz⟩ { act with defers := d :: act.defers } := ⟨hA1.size, hA1.tmp, ⟨d, act.defers, rfl, hd, hA1.dfr⟩⟩
      obtain ⟨rfl, h3⟩ := put_rel hA2 undef_rel (show putM ⟨a.t, (f, args) :: a.d, a.sz⟩ o.dst undefV s1 = .ok a' st' from h2)
      exact hK ρ1 w1 _ o1 h3

theorem doOps_ok (hN : NoCount P) (hs : SelfOk P base n self) {ops : Array Oper} : ∀ (l : List Oper) {a a' : A} {st st' : S}, doOps P self ops.toList l a st = .ok a' st' → ∀ {ρ : Rho} {w : World} {act : Act}, Rel ρ base st.h w →
    ARel ρ a act → Free ρ st st' → ∀ {Q : Exit → Act → World → Prop}, (∀ ρ' w' act', Out ρ base st.n st'.n st'.h w ρ' w' → ARel ρ' a' act' → Q .normal act' w') → wpList P ops Q l act w
  | [], a, a', st, st', hm, ρ, w, act, hr, hA, hf, Q, hQ => by
    obtain ⟨rfl, rfl⟩ := ret_ok (show (ret a : M A) st = .ok a' st' from hm)
    exact hQ ρ w act (Out.refl hr) hA
  | o :: rest, a, a', st, st', hm, ρ, w, act, hr, hA, hf, Q, hQ => by
    obtain ⟨a1, s1, h1, h2⟩ := bnd_ok (show (bnd (doOp P self ops.toList a o) (doOps P self ops.toList rest)) st = .ok a' st' from hm)
    have l1 := (good_doOp (P := P) hs.good).le h1
    have l2 := (good_doOps (P := P) hs.good rest a1).le h2
    refine doOp_ok hN hs h1 hr hA (fun x hx hx' => hf x hx (by omega)) fun ρ1 w1 act1 o1 hA1 => ?_
    refine doOps_ok hN hs rest h2 o1.rel hA1 (fun x hx hx' => ?_) fun ρ2 w2 act2 o2 hA2 => hQ ρ2 w2 act2 (o1.trans o2 l1 l2) hA2
    cases hh : ρ1 x with
    | none => rfl
    | some p =>
      have := o1.new x (hf x (by omega) (by omega)) (by rw [hh]; simp)
      omega
end
end Go.Ev
