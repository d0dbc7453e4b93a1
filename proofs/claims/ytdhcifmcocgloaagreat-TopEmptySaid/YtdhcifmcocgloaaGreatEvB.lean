/- Plain laws of the evaluator's words: numbers forced, lists, trees; what a computation may have touched ('Good'). -/
import Derived.Test.YtdhcifmcocgloaaGreatEvA
set_option linter.unusedSimpArgs false
set_option linter.unusedVariables false
namespace Go.Ev

variable {α β γ : Type}

theorem force_eq (n : Nat) (k : Nat → α) : force n k = k n := by cases n <;> rfl
theorem forceI_eq (n : Int) (k : Int → α) : forceI n k = k n := by
  cases n with
  | ofNat m => unfold forceI; simp only [force_eq]
  | negSucc m => unfold forceI; simp only [force_eq]

/-! ### lists -/
theorem lDrop_eq (n : Nat) : ∀ l : List α, lDrop n l = l.drop n := by
  induction n with
  | zero => intro l; rfl
  | succ n ih => intro l; cases l with
    | nil => rfl
    | cons x t => exact ih t
theorem lTake_eq (n : Nat) : ∀ l : List α, lTake n l = l.take n := by
  induction n with
  | zero => intro l; rfl
  | succ n ih => intro l; cases l with
    | nil => rfl
    | cons x t => exact congrArg (x :: ·) (ih t)
theorem lLen_aux (l : List α) : ∀ n, (List.rec (motive := fun _ => Nat → Nat) (fun n => n) (fun _ _ ih n => force (Nat.succ n) ih) l n : Nat) = n + l.length := by
  induction l with
  | nil => intro n; rfl
  | cons x t ih => intro n; show force (Nat.succ n) _ = _; rw [force_eq, ih]; simp; omega
theorem lLen_eq (l : List α) : lLen l = l.length := by
  unfold lLen; rw [lLen_aux]; omega
theorem lGet_eq (n : Nat) : ∀ l : List α, lGet n l = l[n]? := by
  induction n with
  | zero => intro l; cases l <;> rfl
  | succ n ih => intro l; cases l with
    | nil => rfl
    | cons x t => exact (ih t).trans (by simp)
theorem lApp_eq (l l2 : List α) : lApp l l2 = l ++ l2 := by
  induction l with
  | nil => rfl
  | cons x t ih => exact congrArg (x :: ·) ih
theorem lAll_eq (p : α → Bool) (l : List α) : lAll p l = l.all p := by
  induction l with
  | nil => rfl
  | cons x t ih =>
    show cond (p x) _ false = _
    rw [List.all_cons]
    cases p x
    · rfl
    · exact ih
theorem lMap_eq (f : α → β) (l : List α) : lMap f l = l.map f := by
  induction l with
  | nil => rfl
  | cons x t ih => exact congrArg (f x :: ·) ih
theorem lOver_eq (vs : List α) : ∀ l : List α, vs.length ≤ l.length → lOver vs l = vs ++ l.drop vs.length := by
  induction vs with
  | nil => intro l _; rfl
  | cons v t ih => intro l h; cases l with
    | nil => simp at h
    | cons x r => exact congrArg (v :: ·) (ih r (by simpa using h))
theorem lSet_eq (off : Nat) (vs : List α) : ∀ l : List α, off + vs.length ≤ l.length → lSet off vs l = l.take off ++ vs ++ l.drop (off + vs.length) := by
  induction off with
  | zero => intro l h; simp only [Nat.zero_add] at h; exact (lOver_eq vs l h).trans (by simp)
  | succ n ih => intro l h; cases l with
    | nil => simp at h
    | cons x r =>
      have := ih r (by simp at h; omega)
      show x :: lSet n vs r = _
      rw [this]
      simp [Nat.succ_add]
theorem lSet_length (off : Nat) (vs l : List α) (h : off + vs.length ≤ l.length) : (lSet off vs l).length = l.length := by
  rw [lSet_eq off vs l h]; simp; omega
theorem lRep_succ (zs : List α) (n : Nat) : lRep zs (n + 1) = zs ++ lRep zs n := lApp_eq _ _
theorem lRep_length (zs : List α) (n : Nat) : (lRep zs n).length = n * zs.length := by
  induction n with
  | zero => rw [Nat.zero_mul]; rfl
  | succ n ih => rw [lRep_succ, List.length_append, ih, Nat.succ_mul]; omega

/-! ### trees -/
def unpath : Pt → Nat
  | .z => 0
  | .l p => 2 * unpath p + 1
  | .r p => 2 * unpath p + 2
theorem unpath_pathF (fuel : Nat) : ∀ k, k < fuel → unpath (pathF fuel k) = k := by
  induction fuel with
  | zero => intro k h; omega
  | succ fuel ih =>
    intro k h
    cases k with
    | zero => rfl
    | succ p =>
      show unpath (Nat.rec (motive := fun _ => Pt) (.l (pathF fuel (p / 2))) (fun _ _ => .r (pathF fuel (p / 2))) (p % 2)) = _
      have hi := ih (p / 2) (by omega)
      rcases Nat.mod_two_eq_zero_or_one p with h2 | h2
      · rw [h2]; show 2 * unpath (pathF fuel (p / 2)) + 1 = _; rw [hi]; omega
      · rw [h2]; show 2 * unpath (pathF fuel (p / 2)) + 2 = _; rw [hi]; omega
theorem path_inj {j k : Nat} (h : path j = path k) : j = k := by
  have h1 := unpath_pathF (j + 1) j (by omega)
  have h2 := unpath_pathF (k + 1) k (by omega)
  have h3 : pathF (j + 1) j = pathF (k + 1) k := h
  rw [h3, h2] at h1
  exact h1.symm

namespace Tr
theorem getP_nil (p : Pt) : getP p (.nil : Tr α) = none := by cases p <;> rfl
theorem getP_setP (v : α) (p : Pt) : ∀ (q : Pt) (t : Tr α), (p = q → getP q (setP v p t) = some v) ∧ (p ≠ q → getP q (setP v p t) = getP q t) := by
  induction p with
  | z =>
    intro q t
    constructor
    · intro h; subst h; cases t <;> rfl
    · intro h; cases q with
      | z => exact absurd rfl h
      | l q => cases t with
        | nil => exact getP_nil q
        | node a o b => rfl
      | r q => cases t with
        | nil => exact getP_nil q
        | node a o b => rfl
  | l p ih =>
    intro q t
    constructor
    · intro h; subst h; cases t with
      | nil => exact (ih p .nil).1 rfl
      | node a o b => exact (ih p a).1 rfl
    · intro h; cases q with
      | z => cases t <;> rfl
      | l q => cases t with
        | nil => exact ((ih q .nil).2 (fun e => h (e ▸ rfl))).trans (getP_nil q)
        | node a o b => exact (ih q a).2 (fun e => h (e ▸ rfl))
      | r q => cases t with
        | nil => exact getP_nil q
        | node a o b => rfl
  | r p ih =>
    intro q t
    constructor
    · intro h; subst h; cases t with
      | nil => exact (ih p .nil).1 rfl
      | node a o b => exact (ih p b).1 rfl
    · intro h; cases q with
      | z => cases t <;> rfl
      | r q => cases t with
        | nil => exact ((ih q .nil).2 (fun e => h (e ▸ rfl))).trans (getP_nil q)
        | node a o b => exact (ih q b).2 (fun e => h (e ▸ rfl))
      | l q => cases t with
        | nil => exact getP_nil q
        | node a o b => rfl
theorem getX_eq (p : Pt) : (getX p : BxG α) = ⟨getP p⟩ := by
  induction p with
  | z => rfl
  | l p ih =>
    have e : (getX (.l p) : BxG α) = BxG.rec (motive := fun _ => BxG α) (fun g => ⟨fun t => Tr.rec (motive := fun _ => Option α) none (fun l _ _ _ _ => g l) t⟩) (getX p) := rfl
    rw [e, ih]; rfl
  | r p ih =>
    have e : (getX (.r p) : BxG α) = BxG.rec (motive := fun _ => BxG α) (fun g => ⟨fun t => Tr.rec (motive := fun _ => Option α) none (fun _ _ r _ _ => g r) t⟩) (getX p) := rfl
    rw [e, ih]; rfl
theorem setX_eq (p : Pt) : (setX p : BxU α) = ⟨fun v => setP v p⟩ := by
  induction p with
  | z => rfl
  | l p ih =>
    have e : (setX (.l p) : BxU α) = BxU.rec (motive := fun _ => BxU α) (fun g => ⟨fun v t => Tr.rec (motive := fun _ => Tr α) (.node (g v .nil) none .nil) (fun l o r _ _ => .node (g v l) o r) t⟩) (setX p) := rfl
    rw [e, ih]; rfl
  | r p ih =>
    have e : (setX (.r p) : BxU α) = BxU.rec (motive := fun _ => BxU α) (fun g => ⟨fun v t => Tr.rec (motive := fun _ => Tr α) (.node .nil none (g v .nil)) (fun l o r _ _ => .node l o (g v r)) t⟩) (setX p) := rfl
    rw [e, ih]; rfl
theorem get_eq (t : Tr α) (k : Nat) : t.get k = getP (path k) t := by unfold get; rw [getX_eq]
theorem set_eq (t : Tr α) (k : Nat) (v : α) : t.set k v = setP v (path k) t := by unfold set; rw [setX_eq]
theorem get_nil (k : Nat) : (.nil : Tr α).get k = none := by rw [get_eq]; exact getP_nil _
theorem get_set_same (t : Tr α) (k : Nat) (v : α) : (t.set k v).get k = some v := by rw [get_eq, set_eq]; exact (getP_setP v (path k) (path k) t).1 rfl
theorem get_set_ne (t : Tr α) {j k : Nat} (v : α) (h : k ≠ j) : (t.set k v).get j = t.get j := by rw [get_eq, get_eq, set_eq]; exact (getP_setP v (path k) (path j) t).2 fun e => h (path_inj e)
end Tr

/-! ### computations -/
theorem bnd_ok {m : M α} {f : α → M β} {s s' : S} {b : β} (h : bnd m f s = .ok b s') : ∃ a s1, m s = .ok a s1 ∧ f a s1 = .ok b s' := by
  unfold bnd at h
  cases hm : m s with
  | ok a s1 => rw [hm] at h; exact ⟨a, s1, rfl, h⟩
  | no e => rw [hm] at h; cases h
theorem bnd_of {m : M α} {f : α → M β} {s s1 : S} {a : α} (h : m s = .ok a s1) : bnd m f s = f a s1 := by
  unfold bnd; rw [h]
theorem ret_ok {a b : α} {s s' : S} (h : ret a s = .ok b s') : a = b ∧ s = s' := by
  unfold ret at h; injection h with h1 h2; exact ⟨h1, h2⟩
theorem no_ok {e : Nat} {b : α} {s s' : S} (h : (no e : M α) s = .ok b s') : False := by unfold no at h; cases h
theorem opt_ok {e : Nat} {o : Option α} {b : α} {s s' : S} (h : opt e o s = .ok b s') : o = some b ∧ s = s' := by
  cases o with
  | none => exact (no_ok (show (no e : M α) s = .ok b s' from h)).elim
  | some a => obtain ⟨rfl, rfl⟩ := ret_ok (show ret a s = .ok b s' from h); exact ⟨rfl, rfl⟩
theorem bit_test (x y : Nat) : (bit x).testBit y = decide (x = y) := by
  unfold bit; show (1 <<< x).testBit y = _
  rw [Nat.testBit_shiftLeft]
  by_cases h : x = y
  · subst h; simp
  · by_cases h2 : x ≤ y
    · have h3 : y - x ≠ 0 := by omega
      have h4 : (1 : Nat).testBit (y - x) = false := by
        cases hh : y - x with
        | zero => exact absurd hh h3
        | succ k => simp [Nat.testBit_succ]
      simp [h, h4]
    · simp [h, h2]
theorem lor_eq (a b : Nat) : Nat.lor a b = a ||| b := rfl

theorem getB_eq (x : Nat) (s : S) : getB x s = match s.h.get x with
    | none => .no 1
    | some b => .ok b ⟨s.h, s.n, s.r ||| bit x, s.w⟩ := by
  cases s with
  | mk h n r w =>
    unfold getB
    simp only [force_eq, lor_eq]
    cases h.get x <;> rfl
theorem modB_eq (x : Nat) (b : B) (s : S) : modB x b s = match s.h.get x with
    | none => .no 2
    | some _ => .ok () ⟨s.h.set x b, s.n, s.r ||| bit x, s.w ||| bit x⟩ := by
  cases s with
  | mk h n r w =>
    unfold modB
    simp only [force_eq, lor_eq]
    cases h.get x <;> rfl
theorem newB_eq (b : B) (s : S) : newB b s = .ok s.n ⟨s.h.set s.n b, s.n + 1, s.r, s.w ||| bit s.n⟩ := by
  cases s with
  | mk h n r w =>
    unfold newB
    simp only [force_eq, lor_eq]

/-! ### what a computation touches -/
structure Trace (m : M α) (h : Tr B) (n r w : Nat) (a : α) (s' : S) (dr dw : Nat) : Prop where
  hr : s'.r = r ||| dr
  hw : s'.w = w ||| dw
  hn : n ≤ s'.n
  keep : ∀ x, dw.testBit x = false → s'.h.get x = h.get x
  fresh : (∀ x, n ≤ x → h.get x = none) → ∀ x, s'.n ≤ x → s'.h.get x = none ∧ dw.testBit x = false ∧ dr.testBit x = false
  local_ : ∀ (g : Tr B) (r2 w2 : Nat), (∀ x, dr.testBit x = true → g.get x = h.get x) →
    ∃ g', m ⟨g, n, r2, w2⟩ = .ok a ⟨g', s'.n, r2 ||| dr, w2 ||| dw⟩ ∧ ∀ x, g'.get x = if dw.testBit x then s'.h.get x else g.get x
def Good (m : M α) : Prop := ∀ h n r w a s', m ⟨h, n, r, w⟩ = .ok a s' → ∃ dr dw, Trace m h n r w a s' dr dw

theorem good_ret (a : α) : Good (ret a) := by
  intro h n r w b s' hm
  obtain ⟨rfl, rfl⟩ := ret_ok hm
  exact ⟨0, 0, by simp, by simp, Nat.le_refl _, fun _ _ => rfl, fun hf x hx => ⟨hf x hx, by simp, by simp⟩, fun g r2 w2 _ => ⟨g, by simp [ret], by simp⟩⟩
theorem good_no (e : Nat) : Good (no e : M α) := fun _ _ _ _ _ _ hm => (no_ok hm).elim
theorem good_opt (e : Nat) (o : Option α) : Good (opt e o) := by
  cases o with
  | none => exact good_no e
  | some a => exact good_ret a
theorem good_cond {b : Bool} {x y : M α} (hx : Good x) (hy : Good y) : Good (cond b x y) := by cases b <;> assumption
theorem good_getB (x : Nat) : Good (getB x) := by
  intro h n r w b s' hm
  rw [getB_eq] at hm
  cases hx : h.get x with
  | none => simp only [hx] at hm; cases hm
  | some c =>
    simp only [hx] at hm
    injection hm with h1 h2
    subst h1; subst h2
    refine ⟨bit x, 0, rfl, by simp, Nat.le_refl _, fun _ _ => rfl, fun hf y hy => ⟨hf y hy, by simp, ?_⟩, fun g r2 w2 hg => ⟨g, ?_, by simp⟩⟩
    · rw [bit_test]
      by_cases e : x = y
      · subst e; rw [hf x hy] at hx; cases hx
      · simp [e]
    · rw [getB_eq]
      have : g.get x = some c := (hg x (by rw [bit_test]; simp)).trans hx
      simp [this]
theorem good_modB (x : Nat) (b : B) : Good (modB x b) := by
  intro h n r w u s' hm
  rw [modB_eq] at hm
  cases hx : h.get x with
  | none => simp only [hx] at hm; cases hm
  | some c =>
    simp only [hx] at hm
    injection hm with h1 h2
    subst h1; subst h2
    refine ⟨bit x, bit x, rfl, rfl, Nat.le_refl _, fun y hy => ?_, fun hf y hy => ?_, fun g r2 w2 hg => ⟨g.set x b, ?_, fun y => ?_⟩⟩
    · rw [bit_test] at hy
      exact Tr.get_set_ne _ _ (by simpa using hy)
    · have e : x ≠ y := fun e => by subst e; rw [hf x hy] at hx; cases hx
      refine ⟨?_, by rw [bit_test]; simp [e], by rw [bit_test]; simp [e]⟩
      show (h.set x b).get y = none
      rw [Tr.get_set_ne _ _ e]
      exact hf y hy
    · rw [modB_eq]
      have : g.get x = some c := (hg x (by rw [bit_test]; simp)).trans hx
      simp [this]
    · rw [bit_test]
      by_cases e : x = y
      · subst e; simp [Tr.get_set_same]
      · simp [e, Tr.get_set_ne _ _ e]
theorem good_newB (b : B) : Good (newB b) := by
  intro h n r w a s' hm
  rw [newB_eq] at hm
  injection hm with h1 h2
  subst h1; subst h2
  refine ⟨0, bit n, by simp, rfl, Nat.le_succ _, fun y hy => ?_, fun hf y hy => ?_, fun g r2 w2 hg => ⟨g.set n b, ?_, fun y => ?_⟩⟩
  · rw [bit_test] at hy
    exact Tr.get_set_ne _ _ (by simpa using hy)
  · have hy' : n + 1 ≤ y := hy
    have e : n ≠ y := by omega
    refine ⟨?_, by rw [bit_test]; simp [e], by simp⟩
    show (h.set n b).get y = none
    rw [Tr.get_set_ne _ _ e]
    exact hf y (by omega)
  · rw [newB_eq]; simp
  · rw [bit_test]
    by_cases e : n = y
    · subst e; simp [Tr.get_set_same]
    · simp [e, Tr.get_set_ne _ _ e]
theorem testBit_or (a b x : Nat) : (a ||| b).testBit x = (a.testBit x || b.testBit x) := Nat.testBit_or a b x
theorem good_bnd {m : M α} {f : α → M β} (hm : Good m) (hf : ∀ a, Good (f a)) : Good (bnd m f) := by
  intro h n r w b s' hb
  obtain ⟨a, s1, h1, h2⟩ := bnd_ok hb
  obtain ⟨dr1, dw1, T1⟩ := hm h n r w a s1 h1
  obtain ⟨h', n', r', w'⟩ := s1
  obtain ⟨dr2, dw2, T2⟩ := hf a h' n' r' w' b s' h2
  refine ⟨dr1 ||| dr2, dw1 ||| dw2, ?_, ?_, Nat.le_trans T1.hn T2.hn, fun x hx => ?_, fun hfr x hx => ?_, fun g r2 w2 hg => ?_⟩
  · have e : r' = r ||| dr1 := T1.hr
    rw [T2.hr, e, Nat.or_assoc]
  · have e : w' = w ||| dw1 := T1.hw
    rw [T2.hw, e, Nat.or_assoc]
  · rw [testBit_or, Bool.or_eq_false_iff] at hx
    exact (T2.keep x hx.2).trans (T1.keep x hx.1)
  · have f1 := T1.fresh hfr
    have f2 := T2.fresh (fun y hy => (f1 y hy).1) x hx
    have f3 := f1 x (Nat.le_trans T2.hn hx)
    exact ⟨f2.1, by rw [testBit_or, f2.2.1, f3.2.1]; rfl, by rw [testBit_or, f2.2.2, f3.2.2]; rfl⟩
  · obtain ⟨g1, e1, k1⟩ := T1.local_ g r2 w2 (fun x hx => hg x (by rw [testBit_or, hx]; rfl))
    obtain ⟨g2, e2, k2⟩ := T2.local_ g1 (r2 ||| dr1) (w2 ||| dw1) (fun x hx => by
      rw [k1 x]
      by_cases hd : dw1.testBit x = true
      · simp [hd]
      · simp only [hd]
        have hd' : dw1.testBit x = false := by simpa using hd
        rw [T1.keep x hd']
        exact hg x (by rw [testBit_or, hx, Bool.or_true]))
    refine ⟨g2, ?_, fun x => ?_⟩
    · rw [bnd_of e1]
      simp only [Nat.or_assoc] at e2 ⊢
      exact e2
    · rw [k2 x, testBit_or, k1 x]
      by_cases hd2 : dw2.testBit x = true
      · simp [hd2]
      · have hd2' : dw2.testBit x = false := by simpa using hd2
        by_cases hd : dw1.testBit x = true
        · simp [hd, hd2', T2.keep x hd2']
        · simp [hd, hd2']
end Go.Ev
