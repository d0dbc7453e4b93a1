/- Soundness (5): a region that draws its order, whole. -/
import Derived.Test.YtdhcifmcocgloaaGreatEvX
set_option linter.unusedSimpArgs false
set_option linter.unusedVariables false
namespace Go.Ev
open Go.RowKit (Below)
variable {P : Program} {base : Nat}

/-- which operations have been done -/
def Lof (listed : Array Bool) (j : Nat) : Prop := listed[j]? = some true

theorem mem_ready {ops : Array Oper} {listed : Array Bool} {i : Nat} (h : i ∈ Region.ready .any ops listed) : i < ops.size ∧ listed[i]? = some false ∧ ∀ o, ops[i]? = some o → ∀ e ∈ o.after.toList, bindsE e = true → Lof listed e.on := by
  unfold Region.ready at h
  rw [List.mem_filter] at h
  obtain ⟨h1, h2⟩ := h
  rw [List.mem_range] at h1
  rw [Bool.and_eq_true] at h2
  obtain ⟨h2, h3⟩ := h2
  refine ⟨h1, ?_, fun o ho e he hb => ?_⟩
  · cases hl : listed[i]? with
    | none => simp [hl] at h2
    | some b => simp [hl] at h2; rw [h2]
  · rw [ho] at h3
    simp only [Option.map_some, Option.getD_some] at h3
    rw [Array.all_eq_true'] at h3
    have := h3 e (by simpa using he)
    have hbn : Region.binds .any e = true := by
      unfold bindsE at hb
      unfold Region.binds
      split at hb <;> simp_all
    rw [hbn] at this
    simp only [Bool.not_true, Bool.false_or] at this
    unfold Lof
    cases hl : listed[e.on]? with
    | none => simp [hl] at this
    | some b => simp [hl] at this; rw [this]

theorem ready_nil {ops : Array Oper} {listed : Array Bool} (hsz : listed.size = ops.size) (he : edgesOk 0 ops.toList = true) (h : Region.ready .any ops listed = []) : ∀ j, j < ops.size → Lof listed j := by
  intro j
  induction j using Nat.strongRecOn with
  | _ j ih =>
    intro hj
    unfold Lof
    have hlt : j < listed.size := by omega
    cases hb : listed[j] with
    | true => rw [Array.getElem?_eq_getElem hlt, hb]
    | false =>
      exfalso
      have hm : j ∈ Region.ready .any ops listed := by
        unfold Region.ready
        rw [List.mem_filter, List.mem_range]
        refine ⟨hj, ?_⟩
        have ho : ops[j]? = some ops[j] := Array.getElem?_eq_getElem hj
        have hg : listed.getD j true = false := by simp [Array.getD, hlt, hb]
        rw [hg, ho]
        simp only [Bool.not_false, Option.map_some, Option.getD_some, Bool.true_and]
        rw [Array.all_eq_true']
        intro e hem
        cases hbe : Region.binds .any e with
        | false => rfl
        | true =>
          have hbe' : bindsE e = true := by
            unfold Region.binds at hbe
            unfold bindsE
            split at hbe <;> simp_all
          have h1 := edgesOk_spec 0 ops.toList he j ops[j] (by simp [hj]) e (by simpa using hem) hbe'
          have h2 := ih e.on (by omega) (by omega)
          unfold Lof at h2
          simp [Array.getD_eq_getD_getElem?, h2]
      rw [h] at hm
      cases hm

theorem count_set {l : List Bool} {i k : Nat} (h : l[i]? = some false) (hc : l.count false = k + 1) : (l.set i true).count false = k := by
  induction l generalizing i k with
  | nil => simp at h
  | cons b l ih =>
    cases i with
    | zero =>
      simp at h
      subst h
      simp at hc ⊢
      exact hc
    | succ i =>
      simp only [List.getElem?_cons_succ] at h
      cases b with
      | false =>
        simp at hc
        have hpos : 0 < l.count false := List.count_pos_iff.2 (List.mem_of_getElem? h)
        have := ih (k := k - 1) h (by omega)
        simp
        omega
      | true =>
        simp at hc ⊢
        exact ih h hc

structure Inv (P : Program) (base : Nat) (m : Nat) (ops : Array Oper) (as : Nat → A) (hh : Nat → Tr B) (ns ww : Nat → Nat) (ρ0 : Rho) (w0 : World) (listed : Array Bool) (act : Act) (w : World) (ρ : Rho) (a : A) (h : Tr B) : Prop where
  rel : Rel ρ base h w
  arel : ARel ρ a act
  tmps : ∀ t, Holds (fun i t => (as i).at t) (fun i t => ∃ o, ops[i]? = some o ∧ o.dst = some t) (Lof listed) t (a.at t)
  sz : a.sz = (as 0).sz
  d : a.d = (as 0).d
  heap : ∀ x, Holds (fun i x => (hh i).get x) (fun i x => (ww i).testBit x = true) (Lof listed) x (h.get x)
  grow : Grow ρ0 ρ
  free : ∀ j, j < m → ¬ Lof listed j → ∀ x, ns j ≤ x → x < ns (j + 1) → ρ x = none
  new : ∀ x, ρ0 x = none → ρ x ≠ none → ns 0 ≤ x ∧ x < ns m
  below : Below base w0 w

theorem Rel.of_get {ρ : Rho} {h g : Tr B} {w : World} (hr : Rel ρ base h w) (e : ∀ x, g.get x = h.get x) : Rel ρ base g w :=
  ⟨fun x b hx => hr.blk x b (by rw [← e x]; exact hx), fun x y b c p s q t hx hy => hr.inj x y b c p s q t (by rw [← e x]; exact hx) (by rw [← e y]; exact hy), hr.lt, hr.base⟩

section
variable {n : Nat} {self : Self}

theorem drawOps_ok (hN : NoCount P) (hs : SelfOk P base n self) {ops : Array Oper} (hok : drawOk ops.toList = true) {a a' : A} {st st' : S} (hm : drawOps P self ops.toList (preds ops.toList []) ops.toList [] a st = .ok a' st')
    {ρ0 : Rho} {w0 : World} {act : Act} (hr : Rel ρ0 base st.h w0) (hA : ARel ρ0 a act) (hf : Free ρ0 st st') {Q : Exit → Act → World → Prop}
    (hQ : ∀ ρ' w' act', Out ρ0 base st.n st'.n st'.h w0 ρ' w' → ARel ρ' a' act' → Q .normal act' w') :
    wpAny P .any ops Q ops.size (Array.replicate ops.size false) act { w0 with drawn := w0.drawn + 1 } := by
  obtain ⟨h0, n0, r0, wm0⟩ := st
  obtain ⟨as, hh, ns, rr, ww, ea, eh, en, ela, elh, eln, hrun, hcl⟩ := draw_chain hs.good ops.toList [] a a' h0 n0 r0 wm0 st' hm
  unfold drawOk at hok
  rw [Bool.and_eq_true, Bool.and_eq_true] at hok
  obtain ⟨hap, hpl, hed⟩ := hok
  have hops : ops.toList.toArray = ops := Array.toArray_toList
  rw [hops] at hap
  have hm0 : ops.toList.length = ops.size := Array.length_toList
  rw [hm0] at ela elh eln
  rw [hm0, List.nil_append] at hcl
  have hget : ∀ i, i < ops.size → ∃ o, ops[i]? = some o ∧ ops.toList[i]? = some o := fun i hi => ⟨ops[i], Array.getElem?_eq_getElem hi, by simp [hi]⟩
  have hplain : ∀ (i : Nat) (o : Oper), ops[i]? = some o → plainOp o = true := fun i o ho => List.all_eq_true.1 hpl o (by
    rw [← Array.getElem?_toList] at ho
    exact List.mem_of_getElem? ho)
  have hself : ∀ (i : Nat) (o : Oper), ops[i]? = some o → doOp P self ops.toList (as i) o ⟨hh i, ns i, 0, 0⟩ = .ok (as (i + 1)) ⟨hh (i + 1), ns (i + 1), rr i, ww i⟩ := fun i o ho => hrun i o (by rw [Array.getElem?_toList]; exact ho)
  have htrace : ∀ (i : Nat) (o : Oper), ops[i]? = some o → Trace (doOp P self ops.toList (as i) o) (hh i) (ns i) 0 0 (as (i + 1)) ⟨hh (i + 1), ns (i + 1), rr i, ww i⟩ (rr i) (ww i) := fun i o ho => by
    obtain ⟨dr, dw, T⟩ := good_doOp (P := P) (ops := ops.toList) (a := as i) (o := o) hs.good (hh i) (ns i) 0 0 _ _ (hself i o ho)
    have e1 : rr i = dr := by have := T.hr; simpa using this
    have e2 : ww i = dw := by have := T.hw; simpa using this
    rw [← e1, ← e2] at T
    exact T
  have hmono : ∀ i, i < ops.size → ns i ≤ ns (i + 1) := fun i hi => by
    obtain ⟨o, ho, _⟩ := hget i hi
    exact (htrace i o ho).hn
  have hmono2 : ∀ j i, i ≤ j → j ≤ ops.size → ns i ≤ ns j := by
    intro j
    induction j with
    | zero => intro i h _; have : i = 0 := by omega
              subst this; exact Nat.le_refl _
    | succ j ih =>
      intro i h hj
      by_cases e : i = j + 1
      · subst e; exact Nat.le_refl _
      · exact Nat.le_trans (ih i (by omega) (by omega)) (hmono j (by omega))
  have hfrA : ∀ (i : Nat) (o : Oper), ops[i]? = some o → (∀ t, o.dst ≠ some t → (as (i + 1)).at t = (as i).at t) ∧ (as (i + 1)).sz = (as i).sz ∧ (as (i + 1)).d = (as i).d := fun i o ho => by
    obtain ⟨b1, _, _, _, _, e5, e6, e7⟩ := doOp_frame (hplain i o ho) ⟨fun _ _ => rfl, rfl, rfl⟩ (hself i o ho)
    exact ⟨e5, e6, e7⟩
  have hszd : ∀ i, i ≤ ops.size → (as i).sz = (as 0).sz ∧ (as i).d = (as 0).d := by
    intro i
    induction i with
    | zero => intro _; exact ⟨rfl, rfl⟩
    | succ i ih =>
      intro hi
      obtain ⟨o, ho, _⟩ := hget i (by omega)
      have := hfrA i o ho
      have := ih (by omega)
      exact ⟨by rw [(hfrA i o ho).2.1]; exact this.1, by rw [(hfrA i o ho).2.2]; exact this.2⟩
  have hps : ∀ j, j < ops.size → (preds ops.toList [])[j]? = some ((preds ops.toList []).getD j 0) := fun j hj => by
    have hl := preds_len ops.toList
    have hlt : j < (preds ops.toList []).length := by omega
    rw [List.getD_eq_getElem?_getD, List.getElem?_eq_getElem hlt]
    rfl
  have hms : ∀ i, i < ops.size → ((List.range ops.size).map fun j => (rr j, ww j))[i]? = some (rr i, ww i) := fun i hi => by rw [List.getElem?_map, List.getElem?_range hi]; rfl
  have CH : Chain ops.size (fun i x => (hh i).get x) (fun i x => (rr i).testBit x = true) (fun i x => (ww i).testBit x = true) (predOf ops.toList) := by
    refine ⟨fun i hi x hx => ?_, fun i j hij hj hp x => ?_⟩
    · obtain ⟨o, ho, _⟩ := hget i hi
      exact (htrace i o ho).keep x (by simpa using hx)
    · have := clashes_spec 0 _ _ hcl i j _ (rr i) (ww i) (rr j) (ww j) hij (hps j hj) (hms i (by omega)) (hms j hj) (by rw [Nat.zero_add]; unfold predOf at hp; simpa using hp) x
      exact ⟨fun h => by have := this.1 h; simp [this], fun h => by have := this.2 h; simp [this]⟩
  have CA : Chain ops.size (fun i t => (as i).at t) (fun i t => ∃ o, ops[i]? = some o ∧ t ∈ o.looksAt ops) (fun i t => ∃ o, ops[i]? = some o ∧ o.dst = some t) (predOf ops.toList) := by
    refine ⟨fun i hi t ht => ?_, fun i j hij hj hp t => ?_⟩
    · obtain ⟨o, ho, _⟩ := hget i hi
      exact (hfrA i o ho).1 t fun e => ht ⟨o, ho, e⟩
    · obtain ⟨oi, hoi, hoi'⟩ := hget i (by omega)
      obtain ⟨oj, hoj, hoj'⟩ := hget j hj
      have := aparts_spec ops 0 _ _ hap i j _ oi oj hij (hps j hj) hoi' hoj' (by rw [Nat.zero_add]; unfold predOf at hp; simpa using hp)
      obtain ⟨s1, s2, s3⟩ := Oper.apart_spec this
      refine ⟨fun ⟨o, ho, hd⟩ => ?_, fun ⟨o, ho, hl⟩ ⟨o', ho', hd'⟩ => ?_⟩
      · rw [hoi] at ho
        cases ho
        exact ⟨fun ⟨o', ho', hl⟩ => by rw [hoj] at ho'; cases ho'; exact s1 t hd hl, fun ⟨o', ho', hd'⟩ => by rw [hoj] at ho'; cases ho'; exact s2 t hd hd'⟩
      · rw [hoi] at ho
        cases ho
        rw [hoj] at ho'
        cases ho'
        exact s3 t hd' hl
  -- the walk through all orders
  have main : ∀ (fuel : Nat) (listed : Array Bool) (act : Act) (w : World) (ρ : Rho) (b : A) (h : Tr B), listed.size = ops.size → listed.toList.count false = fuel →
      (∀ j, Lof listed j → ∀ o, ops[j]? = some o → ∀ e ∈ o.after.toList, bindsE e = true → Lof listed e.on) → Inv P base ops.size ops as hh ns ww ρ0 w0 listed act w ρ b h → wpAny P .any ops Q fuel listed act w := by
    intro fuel
    have fin : ∀ (listed : Array Bool) (act : Act) (w : World) (ρ : Rho) (b : A) (h : Tr B), listed.size = ops.size → (∀ j, j < ops.size → Lof listed j) → Inv P base ops.size ops as hh ns ww ρ0 w0 listed act w ρ b h → Q .normal act w := by
      intro listed act w ρ b h hsz hall I
      have hiff : ∀ j, Lof listed j ↔ j < ops.size := fun j => ⟨fun hj => by
        unfold Lof at hj
        have := (Array.getElem?_eq_some_iff.1 hj).1
        omega, hall j⟩
      have e1 : ∀ x, h.get x = (hh ops.size).get x := fun x => CH.done ((I.heap x).iff hiff)
      have e2 : ∀ t, b.at t = (as ops.size).at t := fun t => CA.done ((I.tmps t).iff hiff)
      refine hQ ρ w act ⟨?_, I.grow, fun x hx hx' => ?_, I.below⟩ ?_
      · rw [elh]; exact I.rel.of_get fun x => (e1 x).symm
      · have := I.new x hx hx'
        rw [en, ← eln] at this
        exact this
      · rw [← ela]
        have := hszd ops.size (Nat.le_refl _)
        exact ⟨by rw [this.1, ← I.sz]; exact I.arel.size, fun t => by rw [← e2 t]; exact I.arel.tmp t, by rw [this.2, ← I.d]; exact I.arel.dfr⟩
    induction fuel with
    | zero =>
      intro listed act w ρ b h hsz hcount hcl I
      have hall : ∀ j, j < ops.size → Lof listed j := fun j hj => by
        unfold Lof
        have hlt : j < listed.size := by omega
        rw [Array.getElem?_eq_getElem hlt]
        have hnot : false ∉ listed.toList := List.count_eq_zero.1 hcount
        cases hb : listed[j] with
        | true => rfl
        | false => exact (hnot (by rw [← hb]; exact Array.getElem_mem_toList hlt)).elim
      refine ⟨?_, fin listed act w ρ b h hsz hall I⟩
      cases hrd : Region.ready .any ops listed with
      | nil => rfl
      | cons i rest =>
        exfalso
        obtain ⟨h1, h2, _⟩ := mem_ready (by rw [hrd]; exact List.mem_cons_self .. : i ∈ Region.ready .any ops listed)
        have := hall i h1
        unfold Lof at this
        rw [this] at h2
        cases h2
    | succ fuel ih =>
      intro listed act w ρ b h hsz hcount hclo I
      refine ⟨fun hrd => fin listed act w ρ b h hsz (ready_nil hsz hed hrd) I, fun i hi => ?_⟩
      obtain ⟨h1, h2, h3⟩ := mem_ready hi
      obtain ⟨o, ho, ho'⟩ := hget i h1
      have hiL : ¬ Lof listed i := fun hL => by unfold Lof at hL; rw [h2] at hL; cases hL
      have hltL : ∀ j, Lof listed j → j < ops.size := fun j hj => by
        unfold Lof at hj
        have := (Array.getElem?_eq_some_iff.1 hj).1
        omega
      have hcl2 : ∀ j o e, Lof listed j → ops.toList[j]? = some o → e ∈ o.after.toList → bindsE e = true → Lof listed e.on := fun j o e hj ho he hb => hclo j hj o (by rw [← Array.getElem?_toList]; exact ho) e he hb
      have CL : Closed ops.size (predOf ops.toList) (Lof listed) := ⟨hltL, fun j k hj hp => pred_down hcl2 j k (fun o ho e he hb => hcl2 j o e hj ho he hb) hp⟩
      have hpi : ∀ j, predOf ops.toList i j → Lof listed j := fun j hp => pred_down hcl2 i j (fun o ho e he hb => h3 o (by rw [← Array.getElem?_toList]; exact ho) e he hb) hp
      -- the operation in this state
      have hagree : Agree ops o (as i) b := ⟨fun t ht => (CA.read CL h1 hiL hpi (Or.inl ⟨o, ho, ht⟩) (I.tmps t)).symm, by rw [I.sz, (hszd i (by omega)).1], by rw [I.d, (hszd i (by omega)).2]⟩
      obtain ⟨g', eg, kg⟩ := (htrace i o ho).local_ h 0 0 (fun x hx => CH.read CL h1 hiL hpi (Or.inl hx) (I.heap x))
      simp only [Nat.zero_or] at eg
      obtain ⟨b1, e1, e2, e3, e4, _, _, _⟩ := doOp_frame (hplain i o ho) hagree eg
      show wpOp P ops Q i _ act w
      unfold wpOp
      rw [ho]
      refine doOp_ok hN hs e1 I.rel I.arel (fun x hx hx' => I.free i h1 hiL x hx hx') fun ρ' w' act' O hA' => ?_
      have hLof : ∀ j, (Lof listed j ∨ j = i) ↔ Lof (listed.setIfInBounds i true) j := fun j => by
        unfold Lof
        rw [Array.getElem?_setIfInBounds]
        by_cases e : i = j
        · subst e
          simp
          omega
        · have : ¬ j = i := fun h => e h.symm
          simp [e, this]
      refine ih (listed.setIfInBounds i true) act' w' ρ' b1 g' (by simp [hsz]) ?_ (fun j hj o' ho2 e he hb => ?_) ⟨O.rel, hA', fun t => ?_, by rw [e3]; exact I.sz, by rw [e4]; exact I.d, fun x => ?_, I.grow.trans O.ext, fun j hj hjL x hx hx' => ?_, fun x hx hx' => ?_, I.below.trans O.below⟩
      · have hlt : i < listed.size := by omega
        have hfi : listed.toList[i]? = some false := by rw [Array.getElem?_toList]; exact h2
        rw [Array.toList_setIfInBounds]
        exact count_set hfi hcount
      · have hj' := (hLof j).2 hj
        refine (hLof e.on).1 (Or.inl ?_)
        rcases hj' with hj' | rfl
        · exact hclo j hj' o' ho2 e he hb
        · rw [ho] at ho2
          cases ho2
          exact h3 o ho e he hb
      · refine Holds.iff hLof (CA.write CL h1 hiL (I.tmps t) ⟨fun ⟨o', ho', hd⟩ => ?_, fun hn => ?_⟩)
        · rw [ho] at ho'
          cases ho'
          rw [e2 t, if_pos hd]
        · rw [e2 t, if_neg fun hd => hn ⟨o, ho, hd⟩]
      · refine Holds.iff hLof (CH.write CL h1 hiL (I.heap x) ⟨fun hw => ?_, fun hn => ?_⟩)
        · rw [kg x, if_pos hw]
        · rw [kg x, if_neg hn]
      · have hjL' : ¬ Lof listed j := fun h => hjL ((hLof j).1 (Or.inl h))
        have hji : j ≠ i := fun h => hjL ((hLof j).1 (Or.inr h))
        have h5 := I.free j hj hjL' x hx hx'
        cases hh' : ρ' x with
        | none => rfl
        | some p =>
          have h6 := O.new x h5 (by rw [hh']; simp)
          simp only at h6
          rcases Nat.lt_or_ge j i with hlt | hge
          · have := hmono2 i (j + 1) (by omega) (by omega)
            omega
          · have := hmono2 j (i + 1) (by omega) (by omega)
            omega
      · cases hh' : ρ x with
        | some p => exact I.new x hx (by rw [hh']; simp)
        | none =>
          have h6 := O.new x hh' hx'
          simp only at h6
          have := hmono2 i 0 (by omega) (by omega)
          have := hmono2 ops.size (i + 1) (by omega) (by omega)
          omega
  have hno : ∀ j, ¬ Lof (Array.replicate ops.size false) j := fun j hj => by
    unfold Lof at hj
    rw [Array.getElem?_replicate] at hj
    split at hj <;> cases hj
  refine main ops.size _ act _ ρ0 a h0 (by simp) (by simp) (fun j hj => ?_) ⟨hr.of_heap rfl, hA, fun t => Or.inr ⟨fun j hj => ?_, by show a.at t = (as 0).at t; rw [ea]⟩, by rw [ea], by rw [ea], fun x => Or.inr ⟨fun j hj => ?_, by show h0.get x = (hh 0).get x; rw [eh]⟩, Grow.refl _, fun j hj _ x hx hx' => ?_, fun x hx hx' => absurd hx hx', ⟨rfl, rfl, rfl, Nat.le_refl _, fun _ _ => rfl⟩⟩
  · exact (hno j hj).elim
  · exact (hno j hj).elim
  · exact (hno j hj).elim
  · have h1 := hmono2 j 0 (by omega) (by omega)
    have h2 := hmono2 ops.size (j + 1) (by omega) (by omega)
    exact hf x (by show n0 ≤ x; omega) (by rw [eln]; omega)
end
end Go.Ev
