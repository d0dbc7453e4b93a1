/- Soundness (4): a region that draws its order. -/
import Derived.Test.YtdhcifmcocgloaaGreatEvW
set_option linter.unusedSimpArgs false
set_option linter.unusedVariables false
namespace Go.Ev
open Go.RowKit (Below)
variable {P : Program} {base : Nat}

/-! ### which operations wait for which -/
theorem waits_spec (acc : List Nat) (i : Nat) : ∀ (es : List Edge), (waits acc es).testBit i = true → ∃ e ∈ es, bindsE e = true ∧ (e.on = i ∨ (acc.getD e.on 0).testBit i = true)
  | [], h => by simp [waits] at h
  | e :: es, h => by
    simp only [waits] at h
    cases hb : bindsE e with
    | false =>
      rw [hb] at h
      obtain ⟨e', h1, h2⟩ := waits_spec acc i es h
      exact ⟨e', List.mem_cons_of_mem _ h1, h2⟩
    | true =>
      rw [hb] at h
      simp only [cond_true] at h
      have h' : (((1 <<< e.on) ||| acc.getD e.on 0) ||| waits acc es).testBit i = true := h
      rw [Nat.testBit_or, Nat.testBit_or, Bool.or_eq_true, Bool.or_eq_true] at h'
      rcases h' with (h1 | h1) | h1
      · have hx := bit_test e.on i
        unfold bit at hx
        rw [show Nat.shiftLeft 1 e.on = 1 <<< e.on from rfl, h1] at hx
        exact ⟨e, List.mem_cons_self .., hb, Or.inl (by simpa using hx.symm)⟩
      · exact ⟨e, List.mem_cons_self .., hb, Or.inr h1⟩
      · obtain ⟨e', h2, h3⟩ := waits_spec acc i es h1
        exact ⟨e', List.mem_cons_of_mem _ h2, h3⟩

theorem preds_spec : ∀ (l : List Oper) (acc : List Nat), (preds l acc).length = acc.length + l.length ∧ (preds l acc).take acc.length = acc ∧
    ∀ (j : Nat) (o : Oper), l[j]? = some o → (preds l acc)[acc.length + j]? = some (waits ((preds l acc).take (acc.length + j)) o.after.toList)
  | [], acc => ⟨by simp [preds], by simp [preds], fun j o h => by simp at h⟩
  | o :: rest, acc => by
    obtain ⟨h1, h2, h3⟩ := preds_spec rest (acc ++ [waits acc o.after.toList])
    have e : preds (o :: rest) acc = preds rest (acc ++ [waits acc o.after.toList]) := rfl
    rw [e]
    generalize preds rest (acc ++ [waits acc o.after.toList]) = L at *
    have hl : (acc ++ [waits acc o.after.toList]).length = acc.length + 1 := by simp
    rw [hl] at h1 h2 h3
    have ht : L.take acc.length = acc := by
      have := congrArg (List.take acc.length) h2
      rw [List.take_take, List.take_left' rfl] at this
      rwa [Nat.min_eq_left (by omega)] at this
    refine ⟨by simp only [List.length_cons]; omega, ht, fun j o' hj => ?_⟩
    cases j with
    | zero =>
      simp at hj
      subst hj
      rw [Nat.add_zero, ht]
      have := congrArg (fun l => l[acc.length]?) h2
      simp only [List.getElem?_take] at this
      rw [if_pos (by omega)] at this
      rw [this]
      simp
    | succ j =>
      have := h3 j o' (by simpa using hj)
      rw [show acc.length + (j + 1) = acc.length + 1 + j by omega]
      exact this

theorem preds_len (l : List Oper) : (preds l []).length = l.length := by have := (preds_spec l []).1; simpa using this
theorem preds_at (l : List Oper) {j : Nat} {o : Oper} (h : l[j]? = some o) : (preds l [])[j]? = some (waits ((preds l []).take j) o.after.toList) := by
  have := (preds_spec l []).2.2 j o h
  simpa using this

def predOf (l : List Oper) (j i : Nat) : Prop := ((preds l []).getD j 0).testBit i = true

theorem pred_down {l : List Oper} {L : Nat → Prop} (hd : ∀ j o e, L j → l[j]? = some o → e ∈ o.after.toList → bindsE e = true → L e.on) : ∀ (j i : Nat), (∀ o, l[j]? = some o → ∀ e ∈ o.after.toList, bindsE e = true → L e.on) → predOf l j i → L i := by
  intro j
  induction j using Nat.strongRecOn with
  | _ j ih =>
    intro i hj hp
    unfold predOf at hp
    cases hjo : l[j]? with
    | none =>
      have : (preds l []).getD j 0 = 0 := by
        have hlen := preds_len l
        have hge : l.length ≤ j := by simpa using hjo
        rw [List.getD_eq_getElem?_getD, List.getElem?_eq_none (by omega)]
        rfl
      rw [this] at hp
      simp at hp
    | some o =>
      have hat := preds_at l hjo
      rw [List.getD_eq_getElem?_getD, hat] at hp
      simp only [Option.getD_some] at hp
      obtain ⟨e, he, hb, hcase⟩ := waits_spec _ i _ hp
      have hLe := hj o hjo e he hb
      rcases hcase with rfl | h2
      · exact hLe
      · have hlt2 : e.on < j := by
          rcases Nat.lt_or_ge e.on j with h | h
          · exact h
          · rw [List.getD_eq_getElem?_getD, List.getElem?_take, if_neg (by omega)] at h2
            simp at h2
        have h3 : predOf l e.on i := by
          unfold predOf
          rw [List.getD_eq_getElem?_getD, List.getElem?_take, if_pos hlt2, ← List.getD_eq_getElem?_getD] at h2
          exact h2
        exact ih e.on hlt2 i (fun o' ho' e' he' hb' => hd e.on o' e' hLe ho' he' hb') h3

theorem apart1_spec (ops : Array Oper) (i : Nat) (oi : Oper) : ∀ (ps : List Nat) (l : List Oper), apart1 ops i oi ps l = true → ∀ (j p : Nat) (oj : Oper), ps[j]? = some p → l[j]? = some oj → p.testBit i = false → oi.apart ops oj = true
  | [], _, _, j, p, oj, hp, _, _ => by simp at hp
  | _ :: _, [], _, j, p, oj, _, hm, _ => by simp at hm
  | p0 :: ps, o0 :: l, h, j, p, oj, hp, hm, hb => by
    simp only [apart1] at h
    cases hc : or (Nat.testBit p0 i) (oi.apart ops o0) with
    | false => rw [hc] at h; cases h
    | true =>
      rw [hc] at h
      simp only [cond_true] at h
      cases j with
      | zero =>
        simp at hp hm
        subst hp
        subst hm
        rw [hb, Bool.false_or] at hc
        exact hc
      | succ j => exact apart1_spec ops i oi ps l h j p oj (by simpa using hp) (by simpa using hm) hb
theorem aparts_spec (ops : Array Oper) : ∀ (k : Nat) (ps : List Nat) (l : List Oper), aparts ops k ps l = true → ∀ (i j p : Nat) (oi oj : Oper), i < j → ps[j]? = some p → l[i]? = some oi → l[j]? = some oj → p.testBit (k + i) = false → oi.apart ops oj = true
  | k, [], _, _, i, j, p, _, _, _, hp, _, _, _ => by simp at hp
  | k, _ :: _, [], _, i, j, p, _, _, _, _, hm, _, _ => by simp at hm
  | k, p0 :: ps, o0 :: l, h, i, j, p, oi, oj, hij, hp, hmi, hmj, hb => by
    simp only [aparts] at h
    cases hc : apart1 ops k o0 ps l with
    | false => rw [hc] at h; cases h
    | true =>
      rw [hc] at h
      simp only [cond_true] at h
      cases j with
      | zero => omega
      | succ j =>
        cases i with
        | zero =>
          simp at hmi
          subst hmi
          exact apart1_spec ops k o0 ps l hc j p oj (by simpa using hp) (by simpa using hmj) hb
        | succ i => exact aparts_spec ops (k + 1) ps l h i j p oi oj (by omega) (by simpa using hp) (by simpa using hmi) (by simpa using hmj) (by rw [Nat.add_assoc, Nat.add_comm 1 i]; exact hb)

theorem edgesOk_spec : ∀ (k : Nat) (l : List Oper), edgesOk k l = true → ∀ (j : Nat) (o : Oper), l[j]? = some o → ∀ e ∈ o.after.toList, bindsE e = true → e.on < k + j
  | _, [], _, j, o, hj => by simp at hj
  | k, o0 :: l, h, j, o, hj => by
    simp only [edgesOk] at h
    cases hc : o0.after.toList.all fun e => or (not (bindsE e)) (Nat.blt e.on k) with
    | false => rw [hc] at h; cases h
    | true =>
      rw [hc] at h
      simp only [cond_true] at h
      cases j with
      | zero =>
        simp only [List.getElem?_cons_zero, Option.some.injEq] at hj
        subst hj
        intro e he hb
        have := (List.all_eq_true.1 hc) e he
        rw [hb] at this
        simpa [Nat.blt_eq] using this
      | succ j =>
        intro e he hb
        have := edgesOk_spec (k + 1) l h j o (by simpa using hj) e he hb
        omega

/-! ### one operation in another frame -/
def NoD (m : M Nx) : Prop := ∀ st nx st', m st = .ok nx st' → ∀ f args, nx ≠ .dfr f args
theorem noD_nval {m : M V} : NoD (nval m) := fun st nx st' h f args e => by
  obtain ⟨v, s1, h1, h2⟩ := bnd_ok h
  obtain ⟨rfl, rfl⟩ := ret_ok h2
  cases e
theorem noD_nunit {m : M Unit} : NoD (nunit m) := fun st nx st' h f args e => by
  obtain ⟨v, s1, h1, h2⟩ := bnd_ok h
  obtain ⟨rfl, rfl⟩ := ret_ok h2
  cases e
theorem noD_no {e : Nat} : NoD (no e) := fun st nx st' h => (no_ok h).elim
theorem noD_bnd {α : Type} {m : M α} {f : α → M Nx} (h : ∀ a, NoD (f a)) : NoD (bnd m f) := fun st nx st' hm g args => by
  obtain ⟨v, s1, h1, h2⟩ := bnd_ok hm
  exact h v s1 nx st' h2 g args
theorem noD_callNx {p : FuncId × List V} : NoD (callNx P p) := by
  unfold callNx
  split
  · exact noD_no
  · split
    · intro st nx st' h f args e
      obtain ⟨rfl, rfl⟩ := ret_ok h
      cases e
    · intro st nx st' h
      rename_i fn _ _ _
      cases ho : (fn.origin == "") with
      | false => rw [ho] at h; simp only [cond_false] at h; exact (no_ok h).elim
      | true =>
        rw [ho] at h
        simp only [cond_true] at h
        cases he : extOf fn.name with
        | none => rw [he] at h; exact (no_ok h).elim
        | some e => rw [he] at h; exact noD_nval st nx st' h
theorem noD_evalOp {a : A} {o : Oper} (hp : plainOp o = true) : NoD (evalOp P a o) := by
  unfold evalOp
  unfold plainOp at hp
  cases ho : o.op <;> rw [ho] at hp
  case call c =>
    show NoD (BxN.rec (motive := fun _ => M Nx) (fun f => f a) (cCall P c))
    unfold cCall
    cases hc : c.callee with
    | builtin b => exact noD_bnd fun _ => noD_nval
    | value f => exact noD_bnd fun _ => noD_bnd fun _ => noD_bnd fun _ => noD_callNx
    | invoke r n => exact noD_no
  case defer c => cases hp
  case makeFunc fn f c => cases fn <;> first | exact noD_nval | exact noD_no
  case makeMap t r => cases r <;> first | exact noD_nval | exact noD_no
  all_goals first | exact noD_nval | exact noD_nunit | exact noD_no

structure Agree (ops : Array Oper) (o : Oper) (a b : A) : Prop where
  at_ : ∀ t, t ∈ o.looksAt ops → a.at t = b.at t
  sz : a.sz = b.sz
  d : a.d = b.d

theorem putM_frame {a b a1 : A} {dst : Option Tmp} {v : V} {st st' : S} (hsz : a.sz = b.sz) (hm : putM a dst v st = .ok a1 st') :
    ∃ b1, putM b dst v st = .ok b1 st' ∧ (∀ t, b1.at t = if dst = some t then a1.at t else b.at t) ∧ b1.sz = b.sz ∧ b1.d = b.d ∧ (∀ t, dst ≠ some t → a1.at t = a.at t) ∧ a1.sz = a.sz ∧ a1.d = a.d := by
  cases dst with
  | none =>
    obtain ⟨rfl, rfl⟩ := ret_ok (show (ret a : M A) st = .ok a1 st' from hm)
    exact ⟨b, rfl, fun t => by simp, rfl, rfl, fun _ _ => rfl, rfl, rfl⟩
  | some i =>
    obtain ⟨t, d, sz⟩ := a
    obtain ⟨t2, d2, sz2⟩ := b
    have hsz' : sz = sz2 := hsz
    subst hsz'
    have hm' : (cond (Nat.blt i sz) (ret (A.mk (t.set i v) d sz)) (no 3) : M A) st = .ok a1 st' := hm
    cases hb : Nat.blt i sz with
    | false => rw [hb] at hm'; simp only [cond_false] at hm'; exact (no_ok hm').elim
    | true =>
      rw [hb] at hm'
      simp only [cond_true] at hm'
      obtain ⟨rfl, rfl⟩ := ret_ok hm'
      refine ⟨A.mk (t2.set i v) d2 sz, ?_, fun u => ?_, rfl, rfl, fun u hu => ?_, rfl, rfl⟩
      · show (cond (Nat.blt i sz) (ret (A.mk (t2.set i v) d2 sz)) (no 3) : M A) st = _
        rw [hb]; rfl
      · by_cases e : i = u
        · subst e; rw [if_pos rfl, at_set_same, at_set_same]
        · rw [if_neg (by simpa using e), at_set_ne e]
      · exact at_set_ne (fun e => hu (by rw [e]))

theorem doOp_frame {self : Self} {ops : Array Oper} {o : Oper} {a b a1 : A} {st st' : S} (hp : plainOp o = true) (hab : Agree ops o a b) (hm : doOp P self ops.toList a o st = .ok a1 st') :
    ∃ b1, doOp P self ops.toList b o st = .ok b1 st' ∧ (∀ t, b1.at t = if o.dst = some t then a1.at t else b.at t) ∧ b1.sz = b.sz ∧ b1.d = b.d ∧ (∀ t, o.dst ≠ some t → a1.at t = a.at t) ∧ a1.sz = a.sz ∧ a1.d = a.d := by
  have hw : wantedV ops.toList a o = wantedV ops.toList b o := by
    unfold wantedV
    cases hg : o.guard with
    | none => rfl
    | some p =>
      obtain ⟨j, want⟩ := p
      simp only [lGet_eq, Array.getElem?_toList]
      cases hj : ops[j]? with
      | none => rfl
      | some o' =>
        simp only
        cases hd : o'.dst with
        | none => rfl
        | some d =>
          simp only
          rw [hab.at_ d]
          unfold Oper.looksAt
          rw [hg]
          simp [hj, hd]
  have he : evalOp P a o = evalOp P b o := evalOp_congr fun x hx => by
    cases x with
    | tmp t =>
      show some (a.at t) = some (b.at t)
      rw [hab.at_ t]
      unfold Oper.looksAt
      refine List.mem_append.2 (Or.inl (List.mem_filterMap.2 ⟨.tmp t, by simpa using hx, rfl⟩))
    | const c =>
      unfold A.eval cOpd
      cases hc : ofValue c <;> simp only [hc]
    | global g => rfl
    | func f => rfl
  unfold doOp at hm ⊢
  rw [← hw, ← he]
  cases hwv : wantedV ops.toList a o with
  | false =>
    rw [hwv] at hm
    simp only [cond_false] at hm ⊢
    exact putM_frame hab.sz hm
  | true =>
    rw [hwv] at hm
    simp only [cond_true] at hm ⊢
    obtain ⟨nx, s1, h1, h2⟩ := bnd_ok hm
    have hbnd : ∀ {f : Nx → M A}, bnd (evalOp P a o) f st = f nx s1 := fun {f} => by
      show R.rec (motive := fun _ => R A) (fun a s' => f a s') (fun e => .no e) (evalOp P a o st) = _
      rw [h1]
    rw [hbnd]
    cases nx with
    | val v => exact putM_frame hab.sz h2
    | skip => exact putM_frame hab.sz h2
    | call f args =>
      obtain ⟨v, s2, h3, h4⟩ := bnd_ok (show (bnd (self.call f args) (putM a o.dst)) s1 = .ok a1 st' from h2)
      obtain ⟨b1, e1, e2⟩ := putM_frame (b := b) hab.sz h4
      refine ⟨b1, ?_, e2⟩
      show R.rec (motive := fun _ => R A) (fun a s' => putM b o.dst a s') (fun e => .no e) (self.call f args s1) = _
      rw [h3]
      exact e1
    | dfr f args => exact (noD_evalOp hp st _ s1 h1 f args rfl).elim
end Go.Ev
