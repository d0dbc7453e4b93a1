/- What an abstract value, block, heap says of the model's. Steps side by side ('SimR'). -/
import Derived.Test.YtdhcifmcocgloaaGreatEvD
import Derived.Below
import Derived.Laws.Entries
import Derived.Laws.Sem
import Derived.Laws.Cells
import Derived.Laws.CopyRow
set_option linter.unusedSimpArgs false
set_option linter.unusedVariables false
namespace Go.Ev
open Go.RowKit (Below)

/-- where a name's block lies, and how many cells it has -/
abbrev Rho := Nat → Option (Nat × Nat)

def capRel (cap : Cap) (off len c sz : Nat) : Prop := match cap with
  | .exact k => c = k
  | .open_ z => off + c * z = sz ∧ len ≤ c

mutual
def VRel (ρ : Rho) : V → Value → Prop
  | .int k n, v => v = .int k n
  | .bool b, v => v = .bool b
  | .str s, v => ∃ b : ByteArray, v = .string b ∧ b.data.toList.map (·.toNat) = s
  | .nilp, v => v = .pointer none
  | .ptr x off, v => ∃ b sz, ρ x = some (b, sz) ∧ v = .pointer (some ⟨b, off, none⟩)
  | .nils, v => v = .slice none 0 0
  | .emp, v => ∃ a c, v = .slice (some a) 0 c
  | .sl x off len cap, v => ∃ b sz c, ρ x = some (b, sz) ∧ v = .slice (some ⟨b, off, none⟩) len c ∧ capRel cap off len c sz
  | .nilm, v => v = .map none
  | .map x, v => ∃ b sz, ρ x = some (b, sz) ∧ v = .map (some b)
  | .nilf, v => v = .nilFunc
  | .fn f fs cs, v => ∃ l1 l2, v = .func (.func f) ⟨l1⟩ ⟨l2⟩ ∧ VsRel ρ fs l1 ∧ VsRel ρ cs l2
  | .nili, v => v = .nilIface
  | .agg cs, v => ∃ l, v = .agg ⟨l⟩ ∧ VsRel ρ cs l
  | .tup cs, v => ∃ l, v = .tuple ⟨l⟩ ∧ VsRel ρ cs l
def VsRel (ρ : Rho) : List V → List Value → Prop
  | [], l => l = []
  | x :: xs, l => ∃ v r, l = v :: r ∧ VRel ρ x v ∧ VsRel ρ xs r
end

def Grow (ρ ρ' : Rho) : Prop := ∀ x p, ρ x = some p → ρ' x = some p
theorem Grow.refl (ρ : Rho) : Grow ρ ρ := fun _ _ h => h
theorem Grow.trans {a b c : Rho} (h : Grow a b) (k : Grow b c) : Grow a c := fun x p hx => k x p (h x p hx)

mutual
theorem VRel.mono {ρ ρ' : Rho} (he : Grow ρ ρ') : ∀ {x : V} {v : Value}, VRel ρ x v → VRel ρ' x v
  | .int _ _, _, h => by simp only [VRel] at h ⊢; exact h
  | .bool _, _, h => by simp only [VRel] at h ⊢; exact h
  | .str _, _, h => by simp only [VRel] at h ⊢; exact h
  | .nilp, _, h => by simp only [VRel] at h ⊢; exact h
  | .ptr _ _, _, h => by simp only [VRel] at h ⊢; obtain ⟨b, sz, h1, h2⟩ := h; exact ⟨b, sz, he _ _ h1, h2⟩
  | .nils, _, h => by simp only [VRel] at h ⊢; exact h
  | .emp, _, h => by simp only [VRel] at h ⊢; exact h
  | .sl _ _ _ _, _, h => by simp only [VRel] at h ⊢; obtain ⟨b, sz, c, h1, h2⟩ := h; exact ⟨b, sz, c, he _ _ h1, h2⟩
  | .nilm, _, h => by simp only [VRel] at h ⊢; exact h
  | .map _, _, h => by simp only [VRel] at h ⊢; obtain ⟨b, sz, h1, h2⟩ := h; exact ⟨b, sz, he _ _ h1, h2⟩
  | .nilf, _, h => by simp only [VRel] at h ⊢; exact h
  | .fn _ _ _, _, h => by simp only [VRel] at h ⊢; obtain ⟨l1, l2, h1, h2, h3⟩ := h; exact ⟨l1, l2, h1, VsRel.mono he h2, VsRel.mono he h3⟩
  | .nili, _, h => by simp only [VRel] at h ⊢; exact h
  | .agg _, _, h => by simp only [VRel] at h ⊢; obtain ⟨l, h1, h2⟩ := h; exact ⟨l, h1, VsRel.mono he h2⟩
  | .tup _, _, h => by simp only [VRel] at h ⊢; obtain ⟨l, h1, h2⟩ := h; exact ⟨l, h1, VsRel.mono he h2⟩
theorem VsRel.mono {ρ ρ' : Rho} (he : Grow ρ ρ') : ∀ {xs : List V} {l : List Value}, VsRel ρ xs l → VsRel ρ' xs l
  | [], _, h => by simp only [VsRel] at h ⊢; exact h
  | _ :: _, _, h => by simp only [VsRel] at h ⊢; obtain ⟨v, r, h1, h2, h3⟩ := h; exact ⟨v, r, h1, VRel.mono he h2, VsRel.mono he h3⟩
end

/-! ### lists of values -/
theorem VsRel.cons {ρ : Rho} {x : V} {xs : List V} {v : Value} {l : List Value} (h : VRel ρ x v) (k : VsRel ρ xs l) : VsRel ρ (x :: xs) (v :: l) := by
  simp only [VsRel]; exact ⟨v, l, rfl, h, k⟩
theorem VsRel.nil {ρ : Rho} : VsRel ρ [] [] := by simp only [VsRel]
theorem VsRel.length {ρ : Rho} : ∀ {xs : List V} {l : List Value}, VsRel ρ xs l → l.length = xs.length
  | [], _, h => by simp only [VsRel] at h; subst h; rfl
  | _ :: xs, _, h => by simp only [VsRel] at h; obtain ⟨v, r, rfl, _, h3⟩ := h; simp [VsRel.length h3]
theorem VsRel.get {ρ : Rho} : ∀ {xs : List V} {l : List Value}, VsRel ρ xs l → ∀ (i : Nat) (x : V), xs[i]? = some x → ∃ v, l[i]? = some v ∧ VRel ρ x v
  | [], _, _, i, x, hx => by simp at hx
  | y :: xs, _, h, i, x, hx => by
    simp only [VsRel] at h
    obtain ⟨v, r, rfl, h2, h3⟩ := h
    cases i with
    | zero => simp at hx; subst hx; exact ⟨v, by simp, h2⟩
    | succ i => simp at hx; obtain ⟨u, hu, hr⟩ := VsRel.get h3 i x hx; exact ⟨u, by simpa using hu, hr⟩
theorem VsRel.of_get {ρ : Rho} : ∀ {xs : List V} {l : List Value}, l.length = xs.length → (∀ (i : Nat) (x : V) (v : Value), xs[i]? = some x → l[i]? = some v → VRel ρ x v) → VsRel ρ xs l
  | [], l, h, _ => by simp at h; simp only [VsRel]; exact h
  | x :: xs, [], h, _ => by simp at h
  | x :: xs, v :: l, h, k => VsRel.cons (k 0 x v (by simp) (by simp)) (VsRel.of_get (by simpa using h) fun i y u hy hu => k (i + 1) y u (by simpa using hy) (by simpa using hu))
theorem VsRel.append {ρ : Rho} : ∀ {xs ys : List V} {l k : List Value}, VsRel ρ xs l → VsRel ρ ys k → VsRel ρ (xs ++ ys) (l ++ k)
  | [], _, _, _, h, h' => by simp only [VsRel] at h; subst h; exact h'
  | _ :: xs, _, _, _, h, h' => by simp only [VsRel] at h; obtain ⟨v, r, rfl, h2, h3⟩ := h; exact VsRel.cons h2 (VsRel.append h3 h')
theorem VsRel.take {ρ : Rho} (n : Nat) : ∀ {xs : List V} {l : List Value}, VsRel ρ xs l → VsRel ρ (xs.take n) (l.take n) := by
  induction n with
  | zero => intro xs l _; simp only [List.take_zero]; exact VsRel.nil
  | succ n ih =>
    intro xs l h
    cases xs with
    | nil => simp only [VsRel] at h; subst h; exact VsRel.nil
    | cons x xs => simp only [VsRel] at h; obtain ⟨v, r, rfl, h2, h3⟩ := h; exact VsRel.cons h2 (ih h3)
theorem VsRel.drop {ρ : Rho} (n : Nat) : ∀ {xs : List V} {l : List Value}, VsRel ρ xs l → VsRel ρ (xs.drop n) (l.drop n) := by
  induction n with
  | zero => intro xs l h; exact h
  | succ n ih =>
    intro xs l h
    cases xs with
    | nil => simp only [VsRel] at h; subst h; exact VsRel.nil
    | cons x xs => simp only [VsRel] at h; obtain ⟨v, r, rfl, h2, h3⟩ := h; exact ih h3

theorem VRel.cells {ρ : Rho} {x : V} {v : Value} (h : VRel ρ x v) : VsRel ρ x.cells v.cells.toList := by
  cases x <;> simp only [VRel] at h
  case agg cs => obtain ⟨l, rfl, h2⟩ := h; exact h2
  case int k n => subst h; exact VsRel.cons (by simp only [VRel]) VsRel.nil
  case bool b => subst h; exact VsRel.cons (by simp only [VRel]) VsRel.nil
  case str s => obtain ⟨b, rfl, h2⟩ := h; exact VsRel.cons (by simp only [VRel]; exact ⟨b, rfl, h2⟩) VsRel.nil
  case nilp => subst h; exact VsRel.cons (by simp only [VRel]) VsRel.nil
  case ptr a b => obtain ⟨c, sz, h1, rfl⟩ := h; exact VsRel.cons (by simp only [VRel]; exact ⟨c, sz, h1, rfl⟩) VsRel.nil
  case nils => subst h; exact VsRel.cons (by simp only [VRel]) VsRel.nil
  case emp => obtain ⟨a, c, rfl⟩ := h; exact VsRel.cons (by simp only [VRel]; exact ⟨a, c, rfl⟩) VsRel.nil
  case sl a b c d => obtain ⟨e, sz, k, h1, rfl, h3⟩ := h; exact VsRel.cons (by simp only [VRel]; exact ⟨e, sz, k, h1, rfl, h3⟩) VsRel.nil
  case nilm => subst h; exact VsRel.cons (by simp only [VRel]) VsRel.nil
  case map a => obtain ⟨c, sz, h1, rfl⟩ := h; exact VsRel.cons (by simp only [VRel]; exact ⟨c, sz, h1, rfl⟩) VsRel.nil
  case nilf => subst h; exact VsRel.cons (by simp only [VRel]) VsRel.nil
  case fn f a b => obtain ⟨l1, l2, rfl, h2, h3⟩ := h; exact VsRel.cons (by simp only [VRel]; exact ⟨l1, l2, rfl, h2, h3⟩) VsRel.nil
  case nili => subst h; exact VsRel.cons (by simp only [VRel]) VsRel.nil
  case tup vs => obtain ⟨l, rfl, h2⟩ := h; exact VsRel.cons (by simp only [VRel]; exact ⟨l, rfl, h2⟩) VsRel.nil
theorem VRel.oneC {ρ : Rho} {x : V} {v : Value} (h : VRel ρ x v) (ho : x.oneC = true) : v.oneCell' = true := by
  cases x <;> simp only [VRel] at h <;> first
    | (cases ho; done)
    | (subst h; rfl)
    | (obtain ⟨b, rfl, _⟩ := h; rfl)
    | (obtain ⟨b, c, rfl⟩ := h; rfl)
    | (obtain ⟨b, c, _, rfl⟩ := h; rfl)
    | (obtain ⟨b, c, d, _, rfl, _⟩ := h; rfl)
    | (obtain ⟨b, c, rfl, _⟩ := h; rfl)
theorem VsRel.oneC {ρ : Rho} : ∀ {xs : List V} {l : List Value}, VsRel ρ xs l → xs.all V.oneC = true → ∀ v ∈ l, v.oneCell' = true
  | [], _, h, _ => by simp only [VsRel] at h; subst h; intro v hv; cases hv
  | x :: xs, _, h, ha => by
    simp only [VsRel] at h
    obtain ⟨u, r, rfl, h2, h3⟩ := h
    simp only [List.all_cons, Bool.and_eq_true] at ha
    intro v hv
    cases hv with
    | head => exact h2.oneC ha.1
    | tail _ hm => exact VsRel.oneC h3 ha.2 v hm

mutual
theorem ofValue_rel {ρ : Rho} : ∀ (v : Value) {x : V}, ofValue v = some x → VRel ρ x v
  | .bool b, x, h => by simp only [ofValue, Option.some.injEq] at h; subst h; simp only [VRel]
  | .int k n, x, h => by simp only [ofValue, Option.some.injEq] at h; subst h; simp only [VRel]
  | .string s, x, h => by simp only [ofValue, Option.some.injEq] at h; subst h; simp only [VRel]; exact ⟨s, rfl, rfl⟩
  | .pointer none, x, h => by simp only [ofValue, Option.some.injEq] at h; subst h; simp only [VRel]
  | .pointer (some a), x, h => by simp [ofValue] at h
  | .slice none 0 0, x, h => by simp only [ofValue, Option.some.injEq] at h; subst h; simp only [VRel]
  | .slice none 0 (n + 1), x, h => by simp [ofValue] at h
  | .slice none (n + 1) m, x, h => by simp [ofValue] at h
  | .slice (some a) n m, x, h => by simp [ofValue] at h
  | .map none, x, h => by simp only [ofValue, Option.some.injEq] at h; subst h; simp only [VRel]
  | .map (some r), x, h => by simp [ofValue] at h
  | .nilFunc, x, h => by simp only [ofValue, Option.some.injEq] at h; subst h; simp only [VRel]
  | .nilIface, x, h => by simp only [ofValue, Option.some.injEq] at h; subst h; simp only [VRel]
  | .float k n, x, h => by simp [ofValue] at h
  | .complex k a b, x, h => by simp [ofValue] at h
  | .chan r, x, h => by simp [ofValue] at h
  | .func f a b, x, h => by simp [ofValue] at h
  | .iface t v, x, h => by simp [ofValue] at h
  | .agg ⟨cs⟩, x, h => by
    simp only [ofValue] at h
    split at h
    · rename_i l hl; simp only [Option.some.injEq] at h; subst h; simp only [VRel]; exact ⟨cs, rfl, ofValues_rel cs hl⟩
    · cases h
  | .tuple ⟨cs⟩, x, h => by
    simp only [ofValue] at h
    split at h
    · rename_i l hl; simp only [Option.some.injEq] at h; subst h; simp only [VRel]; exact ⟨cs, rfl, ofValues_rel cs hl⟩
    · cases h
theorem ofValues_rel {ρ : Rho} : ∀ (vs : List Value) {xs : List V}, ofValues vs = some xs → VsRel ρ xs vs
  | [], xs, h => by simp only [ofValues, Option.some.injEq] at h; subst h; exact VsRel.nil
  | v :: vs, xs, h => by
    simp only [ofValues] at h
    split at h
    · rename_i y hy
      split at h
      · rename_i ys hys; simp only [Option.some.injEq] at h; subst h; exact VsRel.cons (ofValue_rel v hy) (ofValues_rel vs hys)
      · cases h
    · cases h
end

/-! ### blocks, heaps -/
def EsRel (ρ : Rho) : List (V × V) → List MapEntry → Prop
  | [], l => l = []
  | (k, v) :: es, l => ∃ e r, l = e :: r ∧ VRel ρ k e.key ∧ VRel ρ v e.val ∧ EsRel ρ es r
theorem EsRel.mono {ρ ρ' : Rho} (he : Grow ρ ρ') : ∀ {es : List (V × V)} {l : List MapEntry}, EsRel ρ es l → EsRel ρ' es l
  | [], _, h => h
  | (_, _) :: _, _, h => by obtain ⟨e, r, h1, h2, h3, h4⟩ := h; exact ⟨e, r, h1, h2.mono he, h3.mono he, EsRel.mono he h4⟩

def BRel (ρ : Rho) (base : Nat) (w : World) (x : Nat) (b : B) : Prop := match b with
  | .cells t n cs ro => cs.length = n ∧ ∃ blk sz arr fz, ρ x = some (blk, sz) ∧ w.heap[blk]? = some (.cells arr t fz) ∧ arr.size = sz ∧ n ≤ sz ∧ VsRel ρ cs (arr.toList.take n) ∧ (ro = false → fz = (0, 0) ∧ base ≤ blk)
  | .map es => ∃ blk sz arr clock, ρ x = some (blk, sz) ∧ w.heap[blk]? = some (.map arr clock) ∧ EsRel ρ es arr.toList ∧ base ≤ blk
  | .dead => True

def B.live (b : B) : Bool := match b with
  | .dead => false
  | _ => true

structure Rel (ρ : Rho) (base : Nat) (h : Tr B) (w : World) : Prop where
  blk : ∀ x b, h.get x = some b → BRel ρ base w x b
  inj : ∀ x y b c p s q t, h.get x = some b → h.get y = some c → b.live = true → c.live = true → ρ x = some (p, s) → ρ y = some (q, t) → p = q → x = y
  lt : ∀ x p s, ρ x = some (p, s) → p < w.heap.size
  base : base ≤ w.heap.size

structure Out (ρ : Rho) (base n n' : Nat) (h' : Tr B) (w : World) (ρ' : Rho) (w' : World) : Prop where
  rel : Rel ρ' base h' w'
  ext : Grow ρ ρ'
  new : ∀ x, ρ x = none → ρ' x ≠ none → n ≤ x ∧ x < n'
  below : Below base w w'

theorem Out.refl {ρ : Rho} {base n : Nat} {h : Tr B} {w : World} (hr : Rel ρ base h w) : Out ρ base n n h w ρ w :=
  ⟨hr, Grow.refl _, fun _ h k => absurd h k, Below.refl _ _⟩
theorem Out.trans {ρ ρ1 ρ2 : Rho} {base n n1 n2 : Nat} {h1 h2 : Tr B} {w w1 w2 : World} (a : Out ρ base n n1 h1 w ρ1 w1) (b : Out ρ1 base n1 n2 h2 w1 ρ2 w2) (l1 : n ≤ n1) (l2 : n1 ≤ n2) :
    Out ρ base n n2 h2 w ρ2 w2 :=
  ⟨b.rel, a.ext.trans b.ext, fun x hx h2 => by
    cases h : ρ1 x with
    | none => have := b.new x h h2; omega
    | some p => have := a.new x hx (by rw [h]; simp); omega, a.below.trans b.below⟩

/-- a step of the evaluator and one of the model, side by side -/
def SimR {α β : Type} (P : Program) (base : Nat) (Q : Rho → α → β → Prop) (ρ0 : Rho) (m : M α) (s : Sem β) : Prop :=
  ∀ st a st', m st = .ok a st' → ∀ ρ w, Grow ρ0 ρ → Rel ρ base st.h w → (∀ x, st.n ≤ x → x < st'.n → ρ x = none) →
    ∃ b w' ρ', s.run P w = .ok b w' ∧ Q ρ' a b ∧ Out ρ base st.n st'.n st'.h w ρ' w'

section
variable {P : Program} {base : Nat} {α β γ δ : Type} {Q : Rho → α → β → Prop} {Q' : Rho → γ → δ → Prop} {ρ0 : Rho}

theorem Good.le {m : M α} (hm : Good m) {st st' : S} {a : α} (h : m st = .ok a st') : st.n ≤ st'.n := by
  obtain ⟨h0, n, r, w⟩ := st
  obtain ⟨dr, dw, T⟩ := hm h0 n r w a st' h
  exact T.hn

theorem sim_bnd {m : M α} {s : Sem β} {f : α → M γ} {g : β → Sem δ} (gm : Good m) (gf : ∀ a, Good (f a)) (hm : SimR P base Q ρ0 m s)
    (hf : ∀ ρ1 a b, Grow ρ0 ρ1 → Q ρ1 a b → SimR P base Q' ρ1 (f a) (g b)) : SimR P base Q' ρ0 (bnd m f) (s >>= g) := by
  intro st c st' h ρ w he hr hfree
  obtain ⟨a, s1, h1, h2⟩ := bnd_ok h
  have l1 := gm.le h1
  have l2 := (gf a).le h2
  obtain ⟨b, w1, ρ1, e1, q1, o1⟩ := hm st a s1 h1 ρ w he hr (fun x hx hx' => hfree x hx (by omega))
  obtain ⟨d, w2, ρ2, e2, q2, o2⟩ := hf ρ1 a b (he.trans o1.ext) q1 s1 c st' h2 ρ1 w1 (Grow.refl _) o1.rel (fun x hx hx' => by
    cases hh : ρ1 x with
    | none => rfl
    | some p =>
      have h0 : ρ x = none := hfree x (by omega) hx'
      have := o1.new x h0 (by rw [hh]; simp)
      omega)
  refine ⟨d, w2, ρ2, ?_, q2, o1.trans o2 l1 l2⟩
  rw [Sem.run_bind, e1]
  exact e2
theorem sim_ret {a : α} {b : β} (h : ∀ ρ, Grow ρ0 ρ → Q ρ a b) : SimR P base Q ρ0 (ret a) (pure b) := by
  intro st c st' hm ρ w he hr _
  obtain ⟨rfl, rfl⟩ := ret_ok hm
  exact ⟨b, w, ρ, rfl, h ρ he, Out.refl hr⟩
theorem sim_no {e : Nat} {s : Sem β} : SimR P base Q ρ0 (no e) s := fun _ _ _ hm => (no_ok hm).elim
theorem sim_opt {e : Nat} {o : Option γ} {f : γ → M α} {s : Sem β} (h : ∀ a, o = some a → SimR P base Q ρ0 (f a) s) : SimR P base Q ρ0 (bnd (opt e o) f) s := by
  intro st c st' hm
  obtain ⟨a, s1, h1, h2⟩ := bnd_ok hm
  obtain ⟨rfl, rfl⟩ := opt_ok h1
  exact h a rfl st c st' h2
theorem sim_optr {e : Nat} {o : Option α} {s : Sem β} (h : ∀ a, o = some a → SimR P base Q ρ0 (ret a) s) : SimR P base Q ρ0 (opt e o) s := by
  intro st c st' hm
  obtain ⟨rfl, rfl⟩ := opt_ok hm
  exact h c rfl st c st rfl
theorem sim_cond {b : Bool} {x y : M α} {s : Sem β} (hx : b = true → SimR P base Q ρ0 x s) (hy : b = false → SimR P base Q ρ0 y s) : SimR P base Q ρ0 (cond b x y) s := by
  cases b
  · exact hy rfl
  · exact hx rfl
theorem sim_run {m : M α} {s s' : Sem β} (e : ∀ w, s.run P w = s'.run P w) (h : SimR P base Q ρ0 m s') : SimR P base Q ρ0 m s := by
  intro st a st' hm ρ w he hr hf
  obtain ⟨b, w', ρ', e1, r⟩ := h st a st' hm ρ w he hr hf
  exact ⟨b, w', ρ', (e w).trans e1, r⟩
theorem sim_mono {Q2 : Rho → α → β → Prop} {m : M α} {s : Sem β} (h : SimR P base Q ρ0 m s) (k : ∀ ρ a b, Grow ρ0 ρ → Q ρ a b → Q2 ρ a b) : SimR P base Q2 ρ0 m s := by
  intro st a st' hm ρ w he hr hf
  obtain ⟨b, w', ρ', e1, q, o⟩ := h st a st' hm ρ w he hr hf
  exact ⟨b, w', ρ', e1, k ρ' a b (he.trans o.ext) q, o⟩
/-- a computation that leaves the world and the heap alone -/
theorem sim_pure {a : α} {s : Sem β} {b : β} (e : ∀ w, s.run P w = .ok b w) (h : ∀ ρ, Grow ρ0 ρ → Q ρ a b) : SimR P base Q ρ0 (ret a) s := by
  intro st c st' hm ρ w he hr _
  obtain ⟨rfl, rfl⟩ := ret_ok hm
  exact ⟨b, w, ρ, e w, h ρ he, Out.refl hr⟩
end
end Go.Ev
