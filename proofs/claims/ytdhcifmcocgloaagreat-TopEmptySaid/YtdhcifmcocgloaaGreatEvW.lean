/- Soundness (3): orders. Whatever the order that the edges allow, each operation finds what it finds in the order of the text. -/
import Derived.Test.YtdhcifmcocgloaaGreatEvV
set_option linter.unusedSimpArgs false
set_option linter.unusedVariables false
namespace Go.Ev
open Go.RowKit (Below)

/-! ### places, readers, writers -/
section
variable {X Y : Type} {m : Nat} {s : Nat → X → Y} {R W : Nat → X → Prop} {pred : Nat → Nat → Prop}

structure Chain (m : Nat) (s : Nat → X → Y) (R W : Nat → X → Prop) (pred : Nat → Nat → Prop) : Prop where
  keep : ∀ i, i < m → ∀ x, ¬ W i x → s (i + 1) x = s i x
  clash : ∀ i j, i < j → j < m → ¬ pred j i → ∀ x, (W i x → ¬ R j x ∧ ¬ W j x) ∧ (R i x → ¬ W j x)

/-- what a place holds when the operations of L have been done -/
def Holds (s : Nat → X → Y) (W : Nat → X → Prop) (L : Nat → Prop) (x : X) (v : Y) : Prop :=
  (∃ k, L k ∧ W k x ∧ (∀ j, L j → W j x → j ≤ k) ∧ v = s (k + 1) x) ∨ ((∀ j, L j → ¬ W j x) ∧ v = s 0 x)

theorem Chain.still (C : Chain m s R W pred) {x : X} {p : Nat} : ∀ q, p ≤ q → q ≤ m → (∀ j, p ≤ j → j < q → ¬ W j x) → s q x = s p x
  | 0, h, _, _ => by have : p = 0 := by omega
                     subst this; rfl
  | q + 1, h, hm, hn => by
    by_cases e : p = q + 1
    · subst e; rfl
    · rw [C.keep q (by omega) x (hn q (by omega) (by omega))]
      exact Chain.still C q (by omega) (by omega) fun j h1 h2 => hn j h1 (by omega)

structure Closed (m : Nat) (pred : Nat → Nat → Prop) (L : Nat → Prop) : Prop where
  lt : ∀ j, L j → j < m
  down : ∀ j i, L j → pred j i → L i

theorem Chain.read (C : Chain m s R W pred) {L : Nat → Prop} (hL : Closed m pred L) {i : Nat} (hi : i < m) (hiL : ¬ L i) (hp : ∀ j, pred i j → L j) {x : X} {v : Y} (hx : R i x ∨ W i x) (h : Holds s W L x v) : v = s i x := by
  -- no operation behind i that has been done writes x; each before i that writes it has been done
  have hb : ∀ j, L j → i < j → ¬ W j x := fun j hj hij hw => by
    have := C.clash i j hij (hL.lt j hj) (fun hp' => hiL (hL.down j i hj hp')) x
    rcases hx with hx | hx
    · exact this.2 hx hw
    · exact (this.1 hx).2 hw
  have hd : ∀ j, j < i → W j x → L j := fun j hji hw => by
    by_cases hpj : pred i j
    · exact hp j hpj
    · have := (C.clash j i hji hi hpj x).1 hw
      rcases hx with hx | hx
      · exact (this.1 hx).elim
      · exact (this.2 hx).elim
  rcases h with ⟨k, hk, hw, hmax, rfl⟩ | ⟨hnone, rfl⟩
  · have hki : k < i := by
      rcases Nat.lt_trichotomy k i with h | h | h
      · exact h
      · subst h; exact (hiL hk).elim
      · exact (hb k hk h hw).elim
    exact (C.still i (by omega) (by omega) fun j h1 h2 hwj => by have := hmax j (hd j h2 hwj) hwj; omega).symm
  · exact (C.still i (by omega) (by omega) fun j _ h2 hwj => hnone j (hd j h2 hwj) hwj).symm

theorem Chain.write (C : Chain m s R W pred) {L : Nat → Prop} (hL : Closed m pred L) {i : Nat} (hi : i < m) (hiL : ¬ L i) {x : X} {v v' : Y} (h : Holds s W L x v) (hv : (W i x → v' = s (i + 1) x) ∧ (¬ W i x → v' = v)) :
    Holds s W (fun j => L j ∨ j = i) x v' := by
  by_cases hw : W i x
  · refine Or.inl ⟨i, Or.inr rfl, hw, fun j hj hwj => ?_, hv.1 hw⟩
    rcases hj with hj | rfl
    · rcases Nat.lt_or_ge i j with h1 | h1
      · have := C.clash i j h1 (hL.lt j hj) (fun hp' => hiL (hL.down j i hj hp')) x
        exact ((this.1 hw).2 hwj).elim
      · exact h1
    · exact Nat.le_refl _
  · rw [hv.2 hw]
    rcases h with ⟨k, hk, hwk, hmax, rfl⟩ | ⟨hnone, rfl⟩
    · exact Or.inl ⟨k, Or.inl hk, hwk, fun j hj hwj => by
        rcases hj with hj | rfl
        · exact hmax j hj hwj
        · exact (hw hwj).elim, rfl⟩
    · exact Or.inr ⟨fun j hj hwj => by
        rcases hj with hj | rfl
        · exact hnone j hj hwj
        · exact hw hwj, rfl⟩

theorem Chain.done (C : Chain m s R W pred) {x : X} {v : Y} (h : Holds s W (fun j => j < m) x v) : v = s m x := by
  rcases h with ⟨k, hk, hw, hmax, rfl⟩ | ⟨hnone, rfl⟩
  · exact (C.still m (by omega) (Nat.le_refl _) fun j h1 h2 hwj => by have := hmax j h2 hwj; omega).symm
  · exact (C.still m (by omega) (Nat.le_refl _) fun j _ h2 hwj => hnone j h2 hwj).symm

theorem Holds.iff {L L' : Nat → Prop} (h : ∀ j, L j ↔ L' j) {x : X} {v : Y} (k : Holds s W L x v) : Holds s W L' x v := by
  have : L = L' := funext fun j => propext (h j)
  rw [← this]; exact k
end

/-! ### the chain of a region -/
section
variable {P : Program} {self : Self} {ops : List Oper} {ps : List Nat}

theorem draw_chain (hs : SelfGood self) : ∀ (l : List Oper) (ms : List (Nat × Nat)) (a a' : A) (h : Tr B) (n r w : Nat) (st' : S), drawOps P self ops ps l ms a ⟨h, n, r, w⟩ = .ok a' st' →
    ∃ (as : Nat → A) (hh : Nat → Tr B) (ns rr ww : Nat → Nat), as 0 = a ∧ hh 0 = h ∧ ns 0 = n ∧ as l.length = a' ∧ st'.h = hh l.length ∧ st'.n = ns l.length ∧
      (∀ j o, l[j]? = some o → doOp P self ops (as j) o ⟨hh j, ns j, 0, 0⟩ = .ok (as (j + 1)) ⟨hh (j + 1), ns (j + 1), rr j, ww j⟩) ∧
      clashes 0 ps (ms ++ (List.range l.length).map fun j => (rr j, ww j)) = true
  | [], ms, a, a', h, n, r, w, st', hm => by
    have hm' : (cond (clashes 0 ps ms) (ret a) (no 160) : M A) ⟨h, n, r, w⟩ = .ok a' st' := hm
    cases hc : clashes 0 ps ms with
    | false => rw [hc] at hm'; simp only [cond_false] at hm'; exact (no_ok hm').elim
    | true =>
      rw [hc] at hm'
      simp only [cond_true] at hm'
      obtain ⟨rfl, rfl⟩ := ret_ok hm'
      exact ⟨fun _ => a, fun _ => h, fun _ => n, fun _ => 0, fun _ => 0, rfl, rfl, rfl, rfl, rfl, rfl, fun j o hj => by simp at hj, by simpa using hc⟩
  | o :: rest, ms, a, a', h, n, r, w, st', hm => by
    rw [drawOps_cons] at hm
    cases h1 : doOp P self ops a o ⟨h, n, 0, 0⟩ with
    | no e => rw [h1] at hm; cases hm
    | ok a1 s1 =>
      rw [h1] at hm
      obtain ⟨h', n', r', w'⟩ := s1
      obtain ⟨as, hh, ns, rr, ww, e1, e2, e3, e4, e5, e6, e7, e8⟩ := draw_chain hs rest _ a1 a' h' n' _ _ st' hm
      refine ⟨fun j => match j with | 0 => a | j + 1 => as j, fun j => match j with | 0 => h | j + 1 => hh j, fun j => match j with | 0 => n | j + 1 => ns j,
        fun j => match j with | 0 => r' | j + 1 => rr j, fun j => match j with | 0 => w' | j + 1 => ww j, rfl, rfl, rfl, e4, e5, e6, fun j o' hj => ?_, ?_⟩
      · cases j with
        | zero =>
          simp at hj
          subst hj
          show doOp P self ops a o ⟨h, n, 0, 0⟩ = .ok (as 0) ⟨hh 0, ns 0, r', w'⟩
          rw [h1, e1, e2, e3]
        | succ j => exact e7 j o' (by simpa using hj)
      · have : (List.range (o :: rest).length).map (fun j => ((match j with | 0 => r' | j + 1 => rr j : Nat), (match j with | 0 => w' | j + 1 => ww j : Nat))) = (r', w') :: (List.range rest.length).map fun j => (rr j, ww j) := by
          rw [List.length_cons, List.range_succ_eq_map, List.map_cons, List.map_map]
          rfl
        rw [this]
        simpa using e8

theorem clash1_spec (i ri wi : Nat) : ∀ (ps : List Nat) (ms : List (Nat × Nat)), clash1 i ri wi ps ms = true → ∀ (j p rj wj : Nat), ps[j]? = some p → ms[j]? = some (rj, wj) → p.testBit i = false → ∀ x, (wi.testBit x = true → rj.testBit x = false ∧ wj.testBit x = false) ∧ (ri.testBit x = true → wj.testBit x = false)
  | [], _, _, j, p, rj, wj, hp, _, _ => by simp at hp
  | _ :: _, [], _, j, p, rj, wj, _, hm, _ => by simp at hm
  | p0 :: ps, (r0, w0) :: ms, h, j, p, rj, wj, hp, hm, hb => by
    simp only [clash1] at h
    cases j with
    | zero =>
      simp at hp hm
      obtain ⟨rfl, rfl⟩ := hm
      subst hp
      rw [hb] at h
      simp only [cond_false] at h
      cases h1 : Nat.beq (Nat.land wi (Nat.lor r0 w0)) 0 with
      | false => rw [h1] at h; cases h
      | true =>
        rw [h1] at h
        simp only [cond_true] at h
        cases h2 : Nat.beq (Nat.land ri w0) 0 with
        | false => rw [h2] at h; cases h
        | true =>
          have e1 : wi &&& (r0 ||| w0) = 0 := Nat.eq_of_beq_eq_true h1
          have e2 : ri &&& w0 = 0 := Nat.eq_of_beq_eq_true h2
          intro x
          have f1 : (wi &&& (r0 ||| w0)).testBit x = false := by rw [e1]; simp
          have f2 : (ri &&& w0).testBit x = false := by rw [e2]; simp
          rw [Nat.testBit_and, Nat.testBit_or] at f1
          rw [Nat.testBit_and] at f2
          refine ⟨fun hw => ?_, fun hr => ?_⟩
          · rw [hw, Bool.true_and, Bool.or_eq_false_iff] at f1; exact f1
          · rw [hr, Bool.true_and] at f2; exact f2
    | succ j =>
      have hrest : clash1 i ri wi ps ms = true := by
        cases hc : Nat.testBit p0 i with
        | true => rw [hc] at h; exact h
        | false =>
          rw [hc] at h
          simp only [cond_false] at h
          cases h1 : Nat.beq (Nat.land wi (Nat.lor r0 w0)) 0 with
          | false => rw [h1] at h; cases h
          | true =>
            rw [h1] at h
            simp only [cond_true] at h
            cases h2 : Nat.beq (Nat.land ri w0) 0 with
            | false => rw [h2] at h; cases h
            | true => rw [h2] at h; exact h
      exact clash1_spec i ri wi ps ms hrest j p rj wj (by simpa using hp) (by simpa using hm) hb
theorem clashes_spec : ∀ (k : Nat) (ps : List Nat) (ms : List (Nat × Nat)), clashes k ps ms = true → ∀ (i j p ri wi rj wj : Nat), i < j → ps[j]? = some p → ms[i]? = some (ri, wi) → ms[j]? = some (rj, wj) → p.testBit (k + i) = false →
    ∀ x, (wi.testBit x = true → rj.testBit x = false ∧ wj.testBit x = false) ∧ (ri.testBit x = true → wj.testBit x = false)
  | k, [], _, _, i, j, p, _, _, _, _, _, hp, _, _, _ => by simp at hp
  | k, _ :: _, [], _, i, j, p, _, _, _, _, _, _, hm, _, _ => by simp at hm
  | k, p0 :: ps, (r0, w0) :: ms, h, i, j, p, ri, wi, rj, wj, hij, hp, hmi, hmj, hb => by
    simp only [clashes] at h
    cases hc : clash1 k r0 w0 ps ms with
    | false => rw [hc] at h; cases h
    | true =>
      rw [hc] at h
      simp only [cond_true] at h
      cases j with
      | zero => omega
      | succ j =>
        cases i with
        | zero =>
          simp at hmi
          obtain ⟨rfl, rfl⟩ := hmi
          exact clash1_spec k r0 w0 ps ms hc j p rj wj (by simpa using hp) (by simpa using hmj) hb
        | succ i =>
          exact clashes_spec (k + 1) ps ms h i j p ri wi rj wj (by omega) (by simpa using hp) (by simpa using hmi) (by simpa using hmj) (by rw [Nat.add_assoc, Nat.add_comm 1 i]; exact hb)
end
end Go.Ev
