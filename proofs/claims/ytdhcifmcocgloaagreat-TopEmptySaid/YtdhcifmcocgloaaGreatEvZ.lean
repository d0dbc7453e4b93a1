/- Soundness (6): code, calls, the whole. -/
import Derived.Test.YtdhcifmcocgloaaGreatEvY
import Derived.Defers
set_option linter.unusedSimpArgs false
set_option linter.unusedVariables false
namespace Go.Ev
open Go.RowKit (Below)
variable {P : Program} {base : Nat} {ρ0 ρ : Rho}

theorem loadVar_ok {t : TypeId} {x off blk sz : Nat} {v : V} {st st' : S} {w : World} (hm : loadVarB P t x off st = .ok v st') (hr : Rel ρ base st.h w) (hρ : ρ x = some (blk, sz)) :
    st'.h = st.h ∧ st'.n = st.n ∧ ∃ u, (loadVar t ⟨blk, off, none⟩).run P w = .ok u w ∧ VRel ρ v u := by
  unfold loadVarB at hm
  obtain ⟨g, s1, h1, h2⟩ := bnd_ok hm
  obtain ⟨hg, rfl⟩ := opt_ok h1
  cases g with
  | true =>
    simp only [cond_true] at h2
    obtain ⟨n, s2, h3, h4⟩ := bnd_ok h2
    obtain ⟨hn, rfl⟩ := opt_ok h3
    obtain ⟨cs, s3, h5, h6⟩ := bnd_ok h4
    obtain ⟨rfl, rfl⟩ := ret_ok (show (ret (.agg cs) : M V) s3 = .ok v st' from h6)
    obtain ⟨t', n', cs0, ro, hx, hle, rfl, hh, hn'⟩ := loadCellsB_ok h5
    obtain ⟨vs, hl, hv, hcell⟩ := cells_read (hr.blk x _ hx) hρ hle
    have hrun := run_loadCells_list (P := P) w ⟨blk, off, none⟩ vs hcell
    rw [hl] at hrun
    refine ⟨hh, hn', .agg vs.toArray, ?_, by simp only [VRel]; exact ⟨vs, rfl, hv⟩⟩
    simp only [loadVar, Sem.run_bind, isAggO_run hg, Result.andThen_ok, if_true, szOf_run hn, hrun, Sem.run_pure]
  | false =>
    simp only [cond_false] at h2
    obtain ⟨l, s2, h3, h4⟩ := bnd_ok h2
    obtain ⟨hh, hn, u, c, rfl, hu, hc⟩ := load1_ok h3 hr hρ
    obtain ⟨rfl, rfl⟩ := ret_ok (show (ret u : M V) s2 = .ok v st' from h4)
    refine ⟨hh, hn, c, ?_, hu⟩
    have : (loadVar t ⟨blk, off, none⟩).run P w = (load ⟨blk, off, none⟩).run P w := by
      simp only [loadVar, Sem.run_bind, isAggO_run hg, Result.andThen_ok]; rfl
    rw [this, run_load]
    simp [hc]

def resS (tmps : Array Value) (r : ResultVar) : Sem Value := match r with
  | .tmp t => pure (tmps.getD t undef)
  | .cell a t => do loadVar t (← asAddr (tmps.getD a undef))

theorem getResults_ok {a : A} {act : Act} (hA : ARel ρ a act) {w : World} : ∀ (l : List ResultVar) {vs : List V} {st st' : S}, getResults P a l st = .ok vs st' → Rel ρ base st.h w →
    st'.h = st.h ∧ st'.n = st.n ∧ ∃ us, (l.mapM (resS act.tmps)).run P w = .ok us w ∧ VsRel ρ vs us
  | [], vs, st, st', hm, hr => by
    obtain ⟨rfl, rfl⟩ := ret_ok (show (ret [] : M (List V)) st = .ok vs st' from hm)
    exact ⟨rfl, rfl, [], rfl, VsRel.nil⟩
  | r :: rest, vs, st, st', hm, hr => by
    obtain ⟨v, s1, h1, h2⟩ := bnd_ok (show (bnd (resV P a r) fun v => bnd (getResults P a rest) fun vs => ret (v :: vs)) st = .ok vs st' from hm)
    obtain ⟨vs', s2, h3, h4⟩ := bnd_ok h2
    obtain ⟨rfl, rfl⟩ := ret_ok h4
    have first : s1.h = st.h ∧ s1.n = st.n ∧ ∃ u, (resS act.tmps r).run P w = .ok u w ∧ VRel ρ v u := by
      cases r with
      | tmp i =>
        obtain ⟨rfl, rfl⟩ := ret_ok (show (ret (a.at i) : M V) st = .ok v s1 from h1)
        exact ⟨rfl, rfl, _, rfl, hA.tmp i⟩
      | cell i t =>
        have h1' : ldV P t (a.at i) st = .ok v s1 := h1
        have hi := hA.tmp i
        cases heq : a.at i with
        | ptr b off =>
          rw [heq] at hi h1'
          simp only [VRel] at hi
          obtain ⟨blk, sz, hρ, he⟩ := hi
          obtain ⟨g1, g2, u, g3, g4⟩ := loadVar_ok h1' hr hρ
          refine ⟨g1, g2, u, ?_, g4⟩
          simp only [resS, he, asAddr, Sem.run_bind, Sem.run_pure, Result.andThen_ok, g3]
        | _ => rw [heq] at h1'; cases h1'
    obtain ⟨g1, g2, u, g3, g4⟩ := first
    obtain ⟨k1, k2, us, k3, k4⟩ := getResults_ok hA rest h3 (by rw [g1]; exact hr)
    refine ⟨k1.trans g1, k2.trans g2, u :: us, ?_, VsRel.cons g4 k4⟩
    rw [List.mapM_cons]
    simp only [Sem.run_bind, g3, Result.andThen_ok, k3, Sem.run_pure]

theorem results1_ok {fn : Func} {a : A} {act : Act} (hA : ARel ρ a act) {w : World} {v : V} {st st' : S} (hm : results1 P fn a st = .ok v st') (hr : Rel ρ base st.h w) :
    st'.h = st.h ∧ st'.n = st.n ∧ ∃ u, (results fn act.tmps).run P w = .ok u w ∧ VRel ρ v u := by
  obtain ⟨vs, s1, h1, h2⟩ := bnd_ok (show (bnd (getResults P a fn.results.toList) fun vs => ret (one vs)) st = .ok v st' from hm)
  obtain ⟨rfl, rfl⟩ := ret_ok h2
  obtain ⟨g1, g2, us, g3, g4⟩ := getResults_ok hA fn.results.toList h1 hr
  have e : results fn act.tmps = (do
      let vs ← fn.results.mapM (resS act.tmps)
      pure (if h : vs.size = 1 then vs[0] else .tuple vs)) := by
    unfold results
    congr 1
  have hrun : (fn.results.mapM (resS act.tmps)).run P w = .ok us.toArray w := by
    rw [Array.mapM_eq_mapM_toList, map_eq_pure_bind, Sem.run_bind, g3]
    rfl
  have ht : VRel ρ (.tup vs) (.tuple ⟨us⟩) := by simp only [VRel]; exact ⟨us, rfl, g4⟩
  have hl := g4.length
  refine ⟨g1, g2, if h : us.toArray.size = 1 then us.toArray[0] else .tuple us.toArray, ?_, ?_⟩
  · rw [e, Sem.run_bind, hrun]
    rfl
  · match vs, us, g4, hl, ht with
    | [x], [y], g4, _, _ =>
      simp only [VsRel] at g4
      obtain ⟨q, r, e, hq, _⟩ := g4
      simp at e
      rw [e.1]
      exact hq
    | [], [], _, _, ht => exact ht
    | x :: x2 :: xs, y :: y2 :: ys, _, _, ht =>
      have : ¬ (y :: y2 :: ys).toArray.size = 1 := by simp
      rw [dif_neg this]
      exact ht

/-! ### a frame's beginning -/
theorem initT_get : ∀ (l : List V) (i : Nat) (t : Tr V) (j : Nat), (initT l i t).get j = if i ≤ j ∧ j < i + l.length then l[j - i]? else t.get j
  | [], i, t, j => by
    rw [if_neg (by simp)]
    rfl
  | v :: vs, i, t, j => by
    show (initT vs (i + 1) (t.set i v)).get j = _
    rw [initT_get vs (i + 1) (t.set i v) j]
    by_cases e : i = j
    · subst e
      rw [if_neg (by omega), Tr.get_set_same, if_pos (by simp)]
      simp
    · rw [Tr.get_set_ne _ _ e]
      by_cases h : i + 1 ≤ j ∧ j < i + 1 + vs.length
      · rw [if_pos h, if_pos (by simp; omega)]
        have : j - i = (j - (i + 1)) + 1 := by omega
        rw [this]
        simp
      · rw [if_neg h, if_neg (by simp; omega)]

theorem nil_get {α : Type} (j : Nat) : (Tr.nil : Tr α).get j = none := by
  exact Tr.get_nil j

theorem begA_rel {fn : Func} {args : List V} {l : List Value} (h : VsRel ρ args l) : ARel ρ (begA fn args) { tmps := (⟨l⟩ : Array Value) ++ Array.replicate (fn.ntmps - (⟨l⟩ : Array Value).size) undef, defers := [] } := by
  have hl := h.length
  unfold begA
  rw [force_eq]
  refine ⟨?_, fun i => ?_, rfl⟩
  · show (_ ++ _ : Array Value).size = Nat.add (lLen args) (Nat.sub fn.ntmps (lLen args))
    rw [lLen_eq]
    simp [hl]
  · show VRel ρ (Option.rec (motive := fun _ => V) undefV (fun v => v) ((initT args 0 .nil).get i)) _
    rw [initT_get, nil_get]
    have hg : ((⟨l⟩ : Array Value) ++ Array.replicate (fn.ntmps - (⟨l⟩ : Array Value).size) undef).getD i undef = (l[i]?).getD undef := by
      rw [Array.getD_eq_getD_getElem?, Array.getElem?_append]
      by_cases hi : i < l.length
      · rw [if_pos (by simpa using hi)]; simp
      · rw [if_neg (by simpa using hi), List.getElem?_eq_none (by omega), Array.getElem?_replicate]
        split <;> rfl
    rw [hg]
    by_cases hi : i < args.length
    · rw [if_pos (by omega)]
      simp only [Nat.sub_zero]
      rw [List.getElem?_eq_getElem hi]
      obtain ⟨u, hu, hr⟩ := h.get i _ (List.getElem?_eq_getElem hi)
      rw [hu]
      exact hr
    · rw [if_neg (by omega), List.getElem?_eq_none (by omega)]
      exact undef_rel

section
variable {n : Nat} {self : Self} (hN : NoCount P) (hX : P.follows .mixedOrders = true) (hs : SelfOk P base n self)
include hN hX hs

theorem stCode_ok (c : Code) (a : A) (st : S) (ex : Ex) (a' : A) (st' : S) (hm : stCode P self c a st = .ok (ex, a') st') (ρ : Rho) (w : World) (act : Act) (hr : Rel ρ base st.h w) (hA : ARel ρ a act) (hf : Free ρ st st')
    (Q : Exit → Act → World → Prop) (hQ : ∀ ρ' w' act', Out ρ base st.n st'.n st'.h w ρ' w' → ARel ρ' a' act' → Q (exitOf ex) act' w')
    (hloop : ∀ body, c = .loop body → Code.rounds P body Q (n + 1) act w) : c.wp P Q act w := by
  have free2 : ∀ {s1 : S} {ρ1 : Rho} {w1 : World}, st.n ≤ s1.n → s1.n ≤ st'.n → Out ρ base st.n s1.n s1.h w ρ1 w1 → Free ρ1 s1 st' := fun {s1 ρ1 w1} l1 l2 o x hx hx' => by
    cases hh : ρ1 x with
    | none => rfl
    | some p =>
      have := o.new x (hf x (by omega) (by omega)) (by rw [hh]; simp)
      omega
  cases c with
  | skip =>
    obtain ⟨e, rfl⟩ := ret_ok (show (ret (.normal, a) : M (Ex × A)) st = .ok (ex, a') st' from hm)
    cases e
    exact wp_skip (hQ ρ w act (Out.refl hr) hA)
  | label l =>
    obtain ⟨e, rfl⟩ := ret_ok (show (ret (.normal, a) : M (Ex × A)) st = .ok (ex, a') st' from hm)
    cases e
    exact wp_label (hQ ρ w act (Out.refl hr) hA)
  | exit id =>
    obtain ⟨e, rfl⟩ := ret_ok (show (ret (.exit id, a) : M (Ex × A)) st = .ok (ex, a') st' from hm)
    cases e
    exact wp_exit (hQ ρ w act (Out.refl hr) hA)
  | ret =>
    obtain ⟨e, rfl⟩ := ret_ok (show (ret (.ret, a) : M (Ex × A)) st = .ok (ex, a') st' from hm)
    cases e
    exact wp_ret (hQ ρ w act (Out.refl hr) hA)
  | region id ops draw =>
    cases draw with
    | false =>
      obtain ⟨a1, s1, h1, h2⟩ := bnd_ok (show (bnd (doOps P self ops.toList ops.toList a) nrm) st = .ok (ex, a') st' from hm)
      obtain ⟨e, rfl⟩ := ret_ok (show (ret (.normal, a1) : M (Ex × A)) s1 = .ok (ex, a') st' from h2)
      cases e
      exact wp_region_list (doOps_ok hN hs ops.toList h1 hr hA hf hQ)
    | true =>
      have hm' : BxC.rec (motive := fun _ => M (Ex × A)) (fun f => f self a) (cond (drawOk ops.toList) ⟨fun self a => bnd (drawOps P self ops.toList (preds ops.toList []) ops.toList [] a) nrm⟩ ⟨fun _ _ => no 162⟩) st = .ok (ex, a') st' := hm
      cases hd : drawOk ops.toList with
      | false => rw [hd] at hm'; exact (no_ok (show (no 162 : M (Ex × A)) st = .ok (ex, a') st' from hm')).elim
      | true =>
        rw [hd] at hm'
        obtain ⟨a1, s1, h1, h2⟩ := bnd_ok (show (bnd (drawOps P self ops.toList (preds ops.toList []) ops.toList [] a) nrm) st = .ok (ex, a') st' from hm')
        obtain ⟨e, rfl⟩ := ret_ok (show (ret (.normal, a1) : M (Ex × A)) s1 = .ok (ex, a') st' from h2)
        cases e
        exact wp_region_any hX (drawOps_ok hN hs hd h1 hr hA hf hQ)
  | seq x y =>
    obtain ⟨⟨e1, a1⟩, s1, h1, h2⟩ := bnd_ok (show (bnd (self.code x a) (cdSeq self y)) st = .ok (ex, a') st' from hm)
    have l1 := (hs.good.code x a).le h1
    refine wp_seq_k fun K hK => ?_
    cases e1 with
    | normal =>
      have h2' : self.code y a1 s1 = .ok (ex, a') st' := h2
      have l2 := (hs.good.code y a1).le h2'
      exact hs.code x a st _ a1 s1 h1 ρ w act hr hA (fun z hz hz' => hf z hz (by omega)) _ fun ρ1 w1 act1 o1 hA1 =>
        hK act1 w1 (hs.code y a1 s1 ex a' st' h2' ρ1 w1 act1 o1.rel hA1 (free2 l1 l2 o1) Q fun ρ2 w2 act2 o2 hA2 => hQ ρ2 w2 act2 (o1.trans o2 l1 l2) hA2)
    | exit id =>
      obtain ⟨e, rfl⟩ := ret_ok (show (ret (.exit id, a1) : M (Ex × A)) s1 = .ok (ex, a') st' from h2)
      cases e
      exact hs.code x a st _ _ _ h1 ρ w act hr hA hf _ fun ρ1 w1 act1 o1 hA1 => hQ ρ1 w1 act1 o1 hA1
    | ret =>
      obtain ⟨e, rfl⟩ := ret_ok (show (ret (.ret, a1) : M (Ex × A)) s1 = .ok (ex, a') st' from h2)
      cases e
      exact hs.code x a st _ _ _ h1 ρ w act hr hA hf _ fun ρ1 w1 act1 o1 hA1 => hQ ρ1 w1 act1 o1 hA1
  | cond c x y =>
    obtain ⟨v, s1, h1, h2⟩ := bnd_ok (show (bnd (evM a c) (cdCond self x y a)) st = .ok (ex, a') st' from hm)
    unfold evM at h1
    obtain ⟨hv, rfl⟩ := opt_ok h1
    have hrv := eval_rel hA hv
    cases v with
    | bool b =>
      simp only [VRel] at hrv
      refine wp_cond (t := b) hrv ?_
      cases b with
      | true => exact hs.code x a st ex a' st' h2 ρ w act hr hA hf Q hQ
      | false => exact hs.code y a st ex a' st' h2 ρ w act hr hA hf Q hQ
    | _ => cases h2
  | block id body =>
    obtain ⟨⟨e1, a1⟩, s1, h1, h2⟩ := bnd_ok (show (bnd (self.code body a) (cdBlock id)) st = .ok (ex, a') st' from hm)
    refine wp_block ?_
    cases e1 with
    | normal =>
      obtain ⟨e, rfl⟩ := ret_ok (show (ret (.normal, a1) : M (Ex × A)) s1 = .ok (ex, a') st' from h2)
      cases e
      exact hs.code body a st _ _ _ h1 ρ w act hr hA hf _ fun ρ1 w1 act1 o1 hA1 => hQ ρ1 w1 act1 o1 hA1
    | ret =>
      obtain ⟨e, rfl⟩ := ret_ok (show (ret (.ret, a1) : M (Ex × A)) s1 = .ok (ex, a') st' from h2)
      cases e
      exact hs.code body a st _ _ _ h1 ρ w act hr hA hf _ fun ρ1 w1 act1 o1 hA1 => hQ ρ1 w1 act1 o1 hA1
    | exit id' =>
      have h2' : (cond (Nat.beq id' id) (ret (.normal, a1)) (ret (.exit id', a1)) : M (Ex × A)) s1 = .ok (ex, a') st' := h2
      cases hb : Nat.beq id' id with
      | true =>
        rw [hb] at h2'
        obtain ⟨e, rfl⟩ := ret_ok (show (ret (.normal, a1) : M (Ex × A)) s1 = .ok (ex, a') st' from h2')
        cases e
        have hid := Nat.eq_of_beq_eq_true hb
        refine hs.code body a st _ _ _ h1 ρ w act hr hA hf _ fun ρ1 w1 act1 o1 hA1 => ?_
        show (if id' = id then Q .normal act1 w1 else Q (.exit id') act1 w1)
        rw [if_pos hid]
        exact hQ ρ1 w1 act1 o1 hA1
      | false =>
        rw [hb] at h2'
        obtain ⟨e, rfl⟩ := ret_ok (show (ret (.exit id', a1) : M (Ex × A)) s1 = .ok (ex, a') st' from h2')
        cases e
        have hid : ¬ id' = id := fun e => by subst e; rw [Nat.beq_refl] at hb; cases hb
        refine hs.code body a st _ _ _ h1 ρ w act hr hA hf _ fun ρ1 w1 act1 o1 hA1 => ?_
        show (if id' = id then Q .normal act1 w1 else Q (.exit id') act1 w1)
        rw [if_neg hid]
        exact hQ ρ1 w1 act1 o1 hA1
  | loop body => exact wp_loop_rounds (n + 1) (hloop body rfl)
  | scope body =>
    refine wp_scope_straight ?_
    refine hs.code body a st ex a' st' hm ρ w act hr hA hf _ fun ρ1 w1 act1 o1 hA1 => ?_
    cases ex with
    | normal => exact hQ ρ1 w1 act1 o1 hA1
    | exit id => exact hQ ρ1 w1 act1 o1 hA1
    | ret => exact hQ ρ1 w1 act1 o1 hA1
  | _ => exact (no_ok (show (no 163 : M (Ex × A)) st = .ok (ex, a') st' from hm)).elim

omit hN hX in
theorem loop_ok (body : Code) (a : A) (st : S) (ex : Ex) (a' : A) (st' : S) (hm : stCode P self (.loop body) a st = .ok (ex, a') st') (ρ : Rho) (w : World) (act : Act) (hr : Rel ρ base st.h w) (hA : ARel ρ a act) (hf : Free ρ st st')
    (Q : Exit → Act → World → Prop) (hQ : ∀ ρ' w' act', Out ρ base st.n st'.n st'.h w ρ' w' → ARel ρ' a' act' → Q (exitOf ex) act' w') : Code.rounds P body Q (n + 1) act w := by
  obtain ⟨⟨e1, a1⟩, s1, h1, h2⟩ := bnd_ok (show (bnd (self.code body a) (cdSeq self (.loop body))) st = .ok (ex, a') st' from hm)
  have l1 := (hs.good.code body a).le h1
  rw [rounds_succ]
  cases e1 with
  | normal =>
    have h2' : self.code (.loop body) a1 s1 = .ok (ex, a') st' := h2
    have l2 := (hs.good.code (.loop body) a1).le h2'
    refine hs.code body a st _ a1 s1 h1 ρ w act hr hA (fun z hz hz' => hf z hz (by omega)) _ fun ρ1 w1 act1 o1 hA1 => ?_
    show Code.rounds P body Q n act1 w1
    refine hs.loop body a1 s1 ex a' st' h2' ρ1 w1 act1 o1.rel hA1 (fun x hx hx' => ?_) Q fun ρ2 w2 act2 o2 hA2 => hQ ρ2 w2 act2 (o1.trans o2 l1 l2) hA2
    cases hh : ρ1 x with
    | none => rfl
    | some p =>
      have := o1.new x (hf x (by omega) (by omega)) (by rw [hh]; simp)
      omega
  | exit id =>
    obtain ⟨e, rfl⟩ := ret_ok (show (ret (.exit id, a1) : M (Ex × A)) s1 = .ok (ex, a') st' from h2)
    cases e
    exact hs.code body a st _ _ _ h1 ρ w act hr hA hf _ fun ρ1 w1 act1 o1 hA1 => hQ ρ1 w1 act1 o1 hA1
  | ret =>
    obtain ⟨e, rfl⟩ := ret_ok (show (ret (.ret, a1) : M (Ex × A)) s1 = .ok (ex, a') st' from h2)
    cases e
    exact hs.code body a st _ _ _ h1 ρ w act hr hA hf _ fun ρ1 w1 act1 o1 hA1 => hQ ρ1 w1 act1 o1 hA1

omit hX in
theorem leaves_ok {fn : Func} {a : A} {v : V} {R : Ending → World → Prop} : ∀ (l : List (FuncId × List V)) (ds : List Deferred) (st s1 st' : S) (u : Unit), runDefers self l st = .ok u s1 → results1 P fn a s1 = .ok v st' → ∀ (ρ : Rho) (w : World) (act : Act),
    Rel ρ base st.h w → ARel ρ a act → DsRel ρ l ds → Free ρ st st' → (∀ ρ' w' r, Out ρ base st.n st'.n st'.h w ρ' w' → VRel ρ' v r → R (.returned r) w') → Leaves P fn act.tmps R ds .returning w
  | [], ds, st, s1, st', u, hm, hres, ρ, w, act, hr, hA, hd, hf, hR => by
    obtain ⟨_, rfl⟩ := ret_ok (show (ret () : M Unit) st = .ok u s1 from hm)
    simp only [DsRel] at hd
    subst hd
    obtain ⟨g1, g2, r, g3, g4⟩ := results1_ok hA hres hr
    exact ⟨r, g3, hR ρ w r (by rw [g1, g2]; exact Out.refl hr) g4⟩
  | (f, args) :: rest, ds, st, s1, st', u, hm, hres, ρ, w, act, hr, hA, hd, hf, hR => by
    obtain ⟨x, s2, h1, h2⟩ := bnd_ok (show (bnd (self.dcall f args) fun _ => runDefers self rest) st = .ok u s1 from hm)
    have l1 := (hs.good.dcall f args).le h1
    have l2 := (good_runDefers hs.good rest).le h2
    have l3 := (good_results1 (P := P) (fn := fn) (a := a)).le hres
    obtain ⟨d, ds', rfl, ⟨cap, dargs, l, hde, hdl, hvl⟩, hds⟩ := hd
    obtain ⟨fn', c, hfn, hb⟩ := hs.dbody f args st x s2 h1
    subst hde
    refine ⟨by simp, .func f, cap, f, ⟨l⟩, rfl, ?_, ?_⟩
    · show (callFunc f (dargs ++ cap)).run P w = _
      rw [hdl]
      have hnm := hN f fn' hfn
      simp only [callFunc, Sem.run_bind, run_program, Result.andThen_ok, hfn, hnm, Bool.false_eq_true, if_false, hb, Option.isNone_some]
      rfl
    · have hcall := hs.dcall f args st x s2 h1 ρ w l hvl hr (fun y hy hy' => hf y hy (by omega)) .returning (fun e w' => match e with
        | .returned _ => Leaves P fn act.tmps R ds' .returning w'
        | _ => False) fun ρ1 w1 r o1 => by
          refine leaves_ok rest ds' s2 s1 st' u h2 hres ρ1 w1 act o1.rel (hA.mono o1.ext) (hds.mono o1.ext) (fun y hy hy' => ?_) fun ρ2 w2 r2 o2 hv2 => hR ρ2 w2 r2 (o1.trans o2 l1 (by omega)) hv2
          cases hh : ρ1 y with
          | none => rfl
          | some p =>
            have := o1.new y (hf y (by omega) (by omega)) (by rw [hh]; simp)
            omega
      refine CallsD.mono hcall fun e u' w' ⟨hu, he⟩ => ?_
      subst hu
      cases e with
      | returned r => exact he
      | panicked chain => exact he.elim
      | outgrown => exact he.elim

omit hX in
theorem stFn_ok {f : FuncId} {fn : Func} (hfn : P.funcs[f]? = some fn) : CallOk P base f (stFn P self fn) := by
  intro args st v st' hm ρ w l hl hr hf R hR
  unfold stFn at hm
  cases hb : fn.body with
  | none => rw [hb] at hm; exact (no_ok hm).elim
  | some c =>
    rw [hb] at hm
    obtain ⟨⟨ex, a'⟩, s1, h1, h2⟩ := bnd_ok hm
    have l1 := (hs.good.code c _).le h1
    have l2 := (good_stEnd (P := P) (fn := fn) (p := (ex, a')) hs.good).le h2
    have tail : (bnd (runDefers self a'.d) fun _ => results1 P fn a') s1 = .ok v st' ∧ (exitOf ex = .normal ∨ exitOf ex = .ret) := by
      cases ex with
      | exit id => exact (no_ok (show (no 170 : M V) s1 = .ok v st' from h2)).elim
      | normal => exact ⟨h2, Or.inl rfl⟩
      | ret => exact ⟨h2, Or.inr rfl⟩
    obtain ⟨h3, hex⟩ := tail
    obtain ⟨u, s2, h4, h5⟩ := bnd_ok h3
    refine calls_of_wp_defers hfn hb ?_
    refine hs.code c _ st ex a' s1 h1 ρ w _ hr (begA_rel hl) (fun x hx hx' => hf x hx (by omega)) _ fun ρ1 w1 act1 o1 hA1 => ?_
    have hleave : Leaves P fn act1.tmps R act1.defers .returning w1 := by
      refine leaves_ok hN hs a'.d act1.defers s1 s2 st' u h4 h5 ρ1 w1 act1 o1.rel hA1 hA1.dfr (fun x hx hx' => ?_) fun ρ2 w2 r o2 hv => hR ρ2 w2 r (o1.trans o2 l1 l2) hv
      cases hh : ρ1 x with
      | none => rfl
      | some p =>
        have := o1.new x (hf x (by omega) (by omega)) (by rw [hh]; simp)
        omega
    rcases hex with e | e
    · rw [e]; exact hleave
    · rw [e]; exact hleave

omit hN hX in
theorem stFnD_ok {f : FuncId} {fn : Func} (hfn : P.funcs[f]? = some fn) : DcallOk P base f (stFnD P self fn) := by
  intro args st v st' hm ρ w l hl hr hf u R hR
  unfold stFnD at hm
  cases hb : fn.body with
  | none => rw [hb] at hm; exact (no_ok hm).elim
  | some c =>
    rw [hb] at hm
    obtain ⟨⟨ex, a'⟩, s1, h1, h2⟩ := bnd_ok hm
    have l1 := (hs.good.code c _).le h1
    have l2 := (good_stEndD (P := P) (fn := fn) (p := (ex, a'))).le h2
    have tail : a'.d = [] ∧ results1 P fn a' s1 = .ok v st' ∧ (exitOf ex = .normal ∨ exitOf ex = .ret) := by
      obtain ⟨t, d, sz⟩ := a'
      cases ex with
      | exit id => exact (no_ok (show (no 171 : M V) s1 = .ok v st' from h2)).elim
      | normal =>
        cases d with
        | nil => exact ⟨rfl, h2, Or.inl rfl⟩
        | cons p q => exact (no_ok (show (no 172 : M V) s1 = .ok v st' from h2)).elim
      | ret =>
        cases d with
        | nil => exact ⟨rfl, h2, Or.inr rfl⟩
        | cons p q => exact (no_ok (show (no 172 : M V) s1 = .ok v st' from h2)).elim
    obtain ⟨hd, h3, hex⟩ := tail
    refine callsD_of_wp hfn hb ?_
    refine hs.code c _ st ex a' s1 h1 ρ w _ hr (begA_rel hl) (fun x hx hx' => hf x hx (by omega)) _ fun ρ1 w1 act1 o1 hA1 => ?_
    obtain ⟨g1, g2, r, g3, g4⟩ := results1_ok hA1 h3 o1.rel
    have hdf : act1.defers = [] := by
      have := hA1.dfr
      rw [hd] at this
      exact this
    have hfin : act1.defers = [] ∧ ∃ v, (results fn act1.tmps).run P w1 = .ok v w1 ∧ R (.returned v) w1 := ⟨hdf, r, g3, hR ρ1 w1 r (by rw [g1, g2]; exact o1)⟩
    rcases hex with e | e
    · rw [e]; exact hfin
    · rw [e]; exact hfin

theorem step_ok {orc : FuncId → Option (List V → M V)} (hg : ∀ f m, orc f = some m → ∀ args, Good (m args)) (ho : ∀ f m, orc f = some m → CallOk P base f m) : SelfOk P base (n + 1) (step P orc self) where
  good := ⟨fun _ _ => good_stCode hs.good, fun _ _ => good_stCall hs.good hg, fun _ _ => good_stDcall hs.good⟩
  call f := by
    intro args st v st' hm
    have hm' : BxF.rec (motive := fun _ => M V) (fun g => g self args) (cFn P orc f) st = .ok v st' := hm
    unfold cFn at hm'
    cases h : orc f with
    | some m => rw [h] at hm'; exact ho f m h args st v st' hm'
    | none =>
      rw [h] at hm'
      cases h2 : P.funcs[f]? with
      | none => rw [h2] at hm'; exact (no_ok (show (no 175 : M V) st = .ok v st' from hm')).elim
      | some fn => rw [h2] at hm'; exact stFn_ok hN hs h2 args st v st' hm'
  dcall f := by
    intro args st v st' hm
    have hm' : stDcall P self f args st = .ok v st' := hm
    unfold stDcall at hm'
    cases h2 : P.funcs[f]? with
    | none => rw [h2] at hm'; exact (no_ok hm').elim
    | some fn => rw [h2] at hm'; exact stFnD_ok hs h2 args st v st' hm'
  dbody f args st v st' hm := by
    have hm' : stDcall P self f args st = .ok v st' := hm
    unfold stDcall at hm'
    cases h2 : P.funcs[f]? with
    | none => rw [h2] at hm'; exact (no_ok hm').elim
    | some fn =>
      rw [h2] at hm'
      simp only at hm'
      unfold stFnD at hm'
      cases hb : fn.body with
      | none => rw [hb] at hm'; exact (no_ok hm').elim
      | some c => exact ⟨fn, c, rfl, hb⟩
  loop c a st ex a' st' hm ρ w act hr hA hf Q hQ := loop_ok hs c a st ex a' st' hm ρ w act hr hA hf Q hQ
  code c a st ex a' st' hm ρ w act hr hA hf Q hQ := stCode_ok hN hX hs c a st ex a' st' hm ρ w act hr hA hf Q hQ fun body e => by
    subst e
    exact loop_ok hs body a st ex a' st' hm ρ w act hr hA hf Q hQ
end

theorem zero_ok : SelfOk P base 0 noSelf where
  good := ⟨fun _ _ => good_no _, fun _ _ => good_no _, fun _ _ => good_no _⟩
  call _ _ _ _ _ hm := by cases hm
  dcall _ _ _ _ _ hm := by cases hm
  dbody _ _ _ _ _ hm := by cases hm
  code _ _ _ _ _ _ hm := by cases hm
  loop _ _ _ _ _ _ hm := by cases hm

/-- THE EVALUATOR IS SOUND -/
theorem evN_ok (hN : NoCount P) (hX : P.follows .mixedOrders = true) {orc : FuncId → Option (List V → M V)} (hg : ∀ f m, orc f = some m → ∀ args, Good (m args)) (ho : ∀ f m, orc f = some m → CallOk P base f m) (n : Nat) :
    SelfOk P base n (evN P orc n) := by
  induction n with
  | zero => exact zero_ok
  | succ n ih => exact step_ok hN hX ih hg ho
end Go.Ev
