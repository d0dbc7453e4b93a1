/- Parts of values, equality, the operations on two values and on one. -/
import Derived.Test.YtdhcifmcocgloaaGreatEvH
import Derived.Laws.StructEq
import Derived.ChangeKeysEq
set_option linter.unusedSimpArgs false
set_option linter.unusedVariables false
namespace Go.Ev
variable {P : Program} {base : Nat} {ρ0 ρ : Rho}

theorem beqNats_eq : ∀ a b : List Nat, beqNats a b = (a == b)
  | [], [] => rfl
  | [], _ :: _ => rfl
  | _ :: _, [] => rfl
  | a :: x, b :: y => by
    show cond (Nat.beq a b) (beqNats x y) false = _
    rw [beqNats_eq x y, List.cons_beq_cons]
    have e : Nat.beq a b = (a == b) := by rw [Bool.eq_iff_iff, Nat.beq_eq, beq_iff_eq]
    rw [e]
    cases a == b <;> rfl
theorem bytes_beq (a b : ByteArray) : beqNats (a.data.toList.map (·.toNat)) (b.data.toList.map (·.toNat)) = (a.toList == b.toList) := by
  rw [beqNats_eq, ByteArray.toList_eq, ByteArray.toList_eq]
  rw [Bool.eq_iff_iff, beq_iff_eq, beq_iff_eq]
  constructor
  · intro h
    have inj : ∀ (x y : List UInt8), x.map (·.toNat) = y.map (·.toNat) → x = y := by
      intro x
      induction x with
      | nil => intro y h; cases y with
        | nil => rfl
        | cons => simp at h
      | cons c x ih => intro y h; cases y with
        | nil => simp at h
        | cons d y =>
          simp only [List.map_cons, List.cons.injEq] at h
          rw [ih y h.2, UInt8.toNat_inj.1 h.1]
    exact inj _ _ h
  · intro h; rw [h]

theorem partV_run {t : TypeId} {cs : List V} {l : List Value} {off : Nat} {v : V} (hv : VsRel ρ cs l) (h : partV P t cs off = some v) :
    ∃ u, (∀ w, (part t ⟨l⟩ off).run P w = .ok u w) ∧ VRel ρ v u := by
  unfold partV at h
  cases hg : isAggO P t with
  | none => rw [hg] at h; cases h
  | some g =>
    rw [hg] at h
    simp only at h
    cases g with
    | true =>
      simp only [cond_true] at h
      cases hn : szOf P t with
      | none => rw [hn] at h; cases h
      | some n =>
        rw [hn] at h
        simp only [Option.some.injEq] at h
        subst h
        refine ⟨.agg ⟨(l.drop off).take n⟩, fun w => ?_, ?_⟩
        · simp only [part, Sem.run_bind, isAggO_run hg, Result.andThen_ok, if_true, szOf_run hn, Sem.run_pure]
          congr 2
          apply Array.ext'
          simp [List.extract]
        · simp only [VRel]
          exact ⟨_, rfl, by rw [lTake_eq, lDrop_eq]; exact (hv.drop off).take n⟩
    | false =>
      simp only [cond_false] at h
      rw [lGet_eq] at h
      obtain ⟨u, hu, hr⟩ := hv.get off v h
      refine ⟨u, fun w => ?_, hr⟩
      simp only [part, Sem.run_bind, isAggO_run hg, Result.andThen_ok, Bool.false_eq_true, if_false]
      have : (⟨l⟩ : Array Value)[off]? = some u := by simpa using hu
      rw [this]
      rfl

def EqOk (P : Program) (d : Nat) : Prop := ∀ (ρ : Rho) (t : TypeId) (x y : V) (r : Bool) (a b : Value), eqV P d t x y = some r → VRel ρ x a → VRel ρ y b → ∀ w, (Op.equalIn d t a b).run P w = .ok r w

theorem eqFields_run {d : Nat} (ih : EqOk P d) {xs ys : List V} {l k : List Value} (hx : VsRel ρ xs l) (hy : VsRel ρ ys k) : ∀ (fs : List Field) (r : Bool),
    eqFields P (eqV P d) xs ys fs = some r → ∀ w, (Op.eqFields d ⟨l⟩ ⟨k⟩ fs).run P w = .ok r w
  | [], r, h, w => by simp only [eqFields, Option.some.injEq] at h; subst h; rfl
  | f :: fs, r, h, w => by
    simp only [eqFields] at h
    by_cases hn : f.name = "_"
    · have : (f.name == "_") = true := by simpa using hn
      rw [this] at h
      simp only [cond_true] at h
      simp only [Op.eqFields, hn, ne_eq, not_true_eq_false, if_false]
      exact eqFields_run ih hx hy fs r h w
    · have : (f.name == "_") = false := by simpa using hn
      rw [this] at h
      simp only [cond_false] at h
      split at h
      · cases h
      · rename_i a ha
        split at h
        · cases h
        · rename_i b hb
          split at h
          · cases h
          · rename_i q hq
            obtain ⟨u, hu, ru⟩ := partV_run hx ha
            obtain ⟨v, hv, rv⟩ := partV_run hy hb
            have he := ih ρ f.type a b q u v hq ru rv w
            simp only [Op.eqFields, hn, ne_eq, not_false_eq_true, if_true, Sem.run_bind, hu, hv, he, Result.andThen_ok, Sem.run_ite]
            cases q with
            | true => simp only [cond_true] at h; simpa using eqFields_run ih hx hy fs r h w
            | false => simp only [cond_false, Option.some.injEq] at h; subst h; simp

theorem eqElems_run {d : Nat} (ih : EqOk P d) {elem : TypeId} {n : Nat} {xs ys : List V} {l k : List Value} (hx : VsRel ρ xs l) (hy : VsRel ρ ys k) (m : Nat) : ∀ (i : Nat) (r : Bool),
    eqElems P (eqV P d elem) elem n xs ys i m = some r → ∀ w, (Op.eqItems d elem n ⟨l⟩ ⟨k⟩ (List.range' i m)).run P w = .ok r w := by
  induction m with
  | zero =>
    intro i r h w
    have h' : some true = some r := h
    simp only [Option.some.injEq] at h'
    subst h'
    rfl
  | succ m ihm =>
    intro i r h w
    have h' : (match partV P elem xs (Nat.mul i n) with
      | none => none
      | some a => match partV P elem ys (Nat.mul i n) with
        | none => none
        | some b => match eqV P d elem a b with
          | none => none
          | some r => cond r (eqElems P (eqV P d elem) elem n xs ys (i + 1) m) (some false)) = some r := h
    split at h'
    · cases h'
    · rename_i a ha
      split at h'
      · cases h'
      · rename_i b hb
        split at h'
        · cases h'
        · rename_i q hq
          obtain ⟨u, hu, ru⟩ := partV_run hx ha
          obtain ⟨v, hv, rv⟩ := partV_run hy hb
          have hu' : ∀ w, (part elem ⟨l⟩ (i * n)).run P w = .ok u w := hu
          have hv' : ∀ w, (part elem ⟨k⟩ (i * n)).run P w = .ok v w := hv
          have he := ih ρ elem a b q u v hq ru rv w
          rw [List.range'_succ]
          simp only [Op.eqItems, Sem.run_bind, hu', hv', he, Result.andThen_ok, Sem.run_ite]
          cases q with
          | true => simp only [cond_true] at h'; simpa using ihm (i + 1) r h' w
          | false => simp only [cond_false, Option.some.injEq] at h'; subst h'; simp

theorem eqV_run (d : Nat) : EqOk P d := by
  induction d with
  | zero => exact fun _ _ _ _ _ _ _ h => by cases h
  | succ d ih =>
    intro ρ t x y r a b h hx hy w
    cases x with
    | int k n =>
      have h' : eqInts P t k n y = some r := h
      unfold eqInts at h'
      split at h'
      · rename_i k2 hu
        cases y with
        | int k' m =>
          simp only at h'
          cases hk : kBeq k k' with
          | false => rw [hk] at h'; cases h'
          | true =>
            rw [hk] at h'
            simp only [cond_true, Option.some.injEq] at h'
            subst h'
            simp only [VRel] at hx hy
            subst hx; subst hy
            have := kBeq_eq.1 hk
            subst this
            rw [run_equalIn_int w d t k k2 n m hu, beqInt_eq]
        | _ => cases h'
      · cases h'
    | bool c =>
      have h' : eqBools P t c y = some r := h
      unfold eqBools at h'
      split at h'
      · rename_i hu
        cases y with
        | bool e =>
          simp only [Option.some.injEq] at h'
          subst h'
          simp only [VRel] at hx hy
          subst hx; subst hy
          exact run_equalIn_bool' w d t c e hu
        | _ => cases h'
      · cases h'
    | str s =>
      have h' : eqStrs P t s y = some r := h
      unfold eqStrs at h'
      split at h'
      · rename_i hu
        cases y with
        | str s' =>
          simp only [Option.some.injEq] at h'
          subst h'
          simp only [VRel] at hx hy
          obtain ⟨p, rfl, rfl⟩ := hx
          obtain ⟨q, rfl, rfl⟩ := hy
          rw [run_equalIn_string w d t p q hu, bytes_beq]
        | _ => cases h'
      · cases h'
    | nilp =>
      have h' : eqPtr P t true y = some r := h
      unfold eqPtr at h'
      split at h'
      · rename_i e hu
        simp only [VRel] at hx
        subst hx
        cases y with
        | nilp => simp only [Option.some.injEq] at h'; subst h'; simp only [VRel] at hy; subst hy; simp [Op.equalIn, run_underlying hu]
        | ptr c o =>
          simp only [cond_true, Option.some.injEq] at h'; subst h'
          simp only [VRel] at hy; obtain ⟨_, _, _, rfl⟩ := hy
          simp [Op.equalIn, run_underlying hu]
        | _ => cases h'
      · cases h'
    | ptr c o =>
      have h' : eqPtr P t false y = some r := h
      unfold eqPtr at h'
      split at h'
      · rename_i e hu
        simp only [VRel] at hx
        obtain ⟨_, _, _, rfl⟩ := hx
        cases y with
        | nilp => simp only [Option.some.injEq] at h'; subst h'; simp only [VRel] at hy; subst hy; simp [Op.equalIn, run_underlying hu]
        | ptr c o => simp only [cond_false] at h'; cases h'
        | _ => cases h'
      · cases h'
    | nils =>
      have h' : eqSls P t true y = some r := h
      unfold eqSls at h'
      split at h'
      · rename_i e hu
        simp only [VRel] at hx
        subst hx
        cases y with
        | nils => simp only [Option.some.injEq] at h'; subst h'; simp only [VRel] at hy; subst hy; simp [Op.equalIn, run_underlying hu]
        | emp =>
          simp only [cond_true, Option.some.injEq] at h'; subst h'
          simp only [VRel] at hy; obtain ⟨_, _, rfl⟩ := hy
          simp [Op.equalIn, run_underlying hu]
        | sl c o n cap =>
          simp only [cond_true, Option.some.injEq] at h'; subst h'
          simp only [VRel] at hy; obtain ⟨_, _, _, _, rfl, _⟩ := hy
          simp [Op.equalIn, run_underlying hu]
        | _ => cases h'
      · cases h'
    | emp =>
      have h' : eqSls P t false y = some r := h
      unfold eqSls at h'
      split at h'
      · rename_i e hu
        simp only [VRel] at hx
        obtain ⟨_, _, rfl⟩ := hx
        cases y with
        | nils => simp only [Option.some.injEq] at h'; subst h'; simp only [VRel] at hy; subst hy; simp [Op.equalIn, run_underlying hu]
        | emp => simp only [cond_false] at h'; cases h'
        | sl c o n cap => simp only [cond_false] at h'; cases h'
        | _ => cases h'
      · cases h'
    | sl c o n cap =>
      have h' : eqSls P t false y = some r := h
      unfold eqSls at h'
      split at h'
      · rename_i e hu
        simp only [VRel] at hx
        obtain ⟨_, _, _, _, rfl, _⟩ := hx
        cases y with
        | nils => simp only [Option.some.injEq] at h'; subst h'; simp only [VRel] at hy; subst hy; simp [Op.equalIn, run_underlying hu]
        | emp => simp only [cond_false] at h'; cases h'
        | sl c o n cap => simp only [cond_false] at h'; cases h'
        | _ => cases h'
      · cases h'
    | nilf =>
      have h' : eqFns P t true y = some r := h
      unfold eqFns at h'
      split at h'
      · rename_i e1 e2 e3 hu
        simp only [VRel] at hx
        subst hx
        cases y with
        | nilf => simp only [Option.some.injEq] at h'; subst h'; simp only [VRel] at hy; subst hy; simp [Op.equalIn, run_underlying hu]
        | fn f l1 l2 =>
          simp only [cond_true, Option.some.injEq] at h'; subst h'
          simp only [VRel] at hy; obtain ⟨_, _, rfl, _⟩ := hy
          simp [Op.equalIn, run_underlying hu]
        | _ => cases h'
      · cases h'
    | fn f l1 l2 =>
      have h' : eqFns P t false y = some r := h
      unfold eqFns at h'
      split at h'
      · rename_i e1 e2 e3 hu
        simp only [VRel] at hx
        obtain ⟨_, _, rfl, _⟩ := hx
        cases y with
        | nilf => simp only [Option.some.injEq] at h'; subst h'; simp only [VRel] at hy; subst hy; simp [Op.equalIn, run_underlying hu]
        | fn f l1 l2 => simp only [cond_false] at h'; cases h'
        | _ => cases h'
      · cases h'
    | agg xs =>
      have h' : eqAggs P (eqV P d) t xs y = some r := h
      cases y with
      | agg ys =>
        simp only [VRel] at hx hy
        obtain ⟨l, rfl, hx⟩ := hx
        obtain ⟨k, rfl, hy⟩ := hy
        simp only [eqAggs] at h'
        split at h'
        · rename_i fields hu
          cases hp : P.stoodInHeld t with
          | true => rw [hp] at h'; cases h'
          | false =>
            rw [hp] at h'
            simp only [cond_false] at h'
            have hf : P.fieldsOf t = fields := by unfold Program.fieldsOf; rw [hu]
            rw [run_equalIn_struct w d t ⟨l⟩ ⟨k⟩ (by rw [hf]; exact hu) hp, hf]
            exact eqFields_run ih hx hy _ r h' w
        · rename_i len elem hu
          split at h'
          · cases h'
          · rename_i n hn
            obtain ⟨i, hi, hin⟩ := szOf_info hn
            rw [run_equalIn_array w d ⟨l⟩ ⟨k⟩ hu hi]
            have hc : P.cellsOf elem = n := by simp [Program.cellsOf, hi, hin]
            rw [hc, List.range_eq_range']
            exact eqElems_run ih hx hy len 0 r h' w
        · cases h'
      | _ => cases h'
    | nilm => cases h
    | map c => cases h
    | nili => cases h
    | tup vs => cases h
end Go.Ev
