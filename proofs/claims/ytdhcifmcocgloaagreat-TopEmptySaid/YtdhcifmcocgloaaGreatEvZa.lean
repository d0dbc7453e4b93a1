/- An oracle for the sum's step: a table of what it answers, each entry shown by its own run. -/
import Derived.Test.YtdhcifmcocgloaaGreatEvZ
set_option linter.unusedSimpArgs false
set_option linter.unusedVariables false
namespace Go.Ev
open Go.RowKit (Below)
variable {P : Program} {base : Nat}

noncomputable def mkI (k : IntKind) (l : List Nat) : List V := lMap (fun n => V.int k (Int.ofNat n)) l
noncomputable def eqI (k : IntKind) (l : List Nat) : List V → Bool := List.rec (motive := fun _ => List V → Bool)
  (fun cs => match cs with
    | [] => true
    | _ => false)
  (fun n _ ih cs => match cs with
    | [] => false
    | v :: r => match v with
      | .int j m => match m with
        | .ofNat m => cond (kBeq j k) (cond (Nat.beq n m) (ih r) false) false
        | _ => false
      | _ => false) l

structure Ent where
  off : Nat
  w : List Nat
  b : List Nat
  r : List Nat

noncomputable def pickE (ws : List V) (off : Nat) (cs : List V) (tab : List Ent) : Option (List Nat) := match tab with
  | [] => none
  | e :: rest => cond (and (Nat.beq off e.off) (and (eqI .u32 e.w ws) (eqI .u8 e.b (lTake (Nat.add off 64) cs)))) (some e.r) (pickE ws off cs rest)
def isOpen1 (c : Cap) : Bool := match c with
  | .open_ z => Nat.beq z 1
  | _ => false
noncomputable def addR (o : Option (List Nat)) : M V := match o with
  | some r => ret (.agg (mkI .u32 r))
  | none => no 302
noncomputable def addB (t : TypeId) (tab : List Ent) (ws : List V) (off : Nat) (x : B) : M V := match x with
  | .cells t' n cs _ => cond (and (Nat.beq t' t) (Nat.ble (Nat.add off 64) n)) (addR (pickE ws off cs tab)) (no 303)
  | _ => no 304
noncomputable def addM (t : TypeId) (tab : List Ent) (args : List V) : M V := match args with
  | [x, y] => match x with
    | .agg ws => match y with
      | .sl b off len cap => cond (and (Nat.beq len 64) (isOpen1 cap)) (bnd (getB b) (addB t tab ws off)) (no 300)
      | _ => no 305
    | _ => no 306
  | _ => no 301

theorem good_addM {t : TypeId} {tab : List Ent} {args : List V} : Good (addM t tab args) := by
  unfold addM
  split
  · split
    · split
      · refine good_cond (good_bnd (good_getB _) fun x => ?_) (good_no _)
        unfold addB
        split
        · refine good_cond ?_ (good_no _)
          unfold addR
          split
          · exact good_ret _
          · exact good_no _
        · exact good_no _
      · exact good_no _
    · exact good_no _
  · exact good_no _

theorem eqI_spec (k : IntKind) : ∀ (l : List Nat) (cs : List V), eqI k l cs = true → cs = l.map fun n : Nat => V.int k (n : Int)
  | [], cs, h => by
    cases cs with
    | nil => rfl
    | cons v r => cases h
  | n :: l, cs, h => by
    cases cs with
    | nil => cases h
    | cons v r =>
      cases v with
      | int j m =>
        cases m with
        | ofNat m =>
          have h' : cond (kBeq j k) (cond (Nat.beq n m) (eqI k l r) false) false = true := h
          cases h1 : kBeq j k with
          | false => rw [h1] at h'; cases h'
          | true =>
            rw [h1] at h'
            simp only [cond_true] at h'
            cases h2 : Nat.beq n m with
            | false => rw [h2] at h'; cases h'
            | true =>
              rw [h2] at h'
              simp only [cond_true] at h'
              rw [eqI_spec k l r h', kBeq_eq.1 h1, Nat.eq_of_beq_eq_true h2]
              rfl
        | negSucc m => cases h
      | _ => cases h

theorem pickE_spec {ws : List V} {off : Nat} {cs : List V} : ∀ {tab : List Ent} {r : List Nat}, pickE ws off cs tab = some r → ∃ e ∈ tab, off = e.off ∧ ws = e.w.map (fun n : Nat => V.int .u32 (n : Int)) ∧ cs.take (off + 64) = e.b.map (fun n : Nat => V.int .u8 (n : Int)) ∧ r = e.r
  | [], r, h => by cases h
  | e :: rest, r, h => by
    simp only [pickE] at h
    cases hc : and (Nat.beq off e.off) (and (eqI .u32 e.w ws) (eqI .u8 e.b (lTake (Nat.add off 64) cs))) with
    | true =>
      rw [hc] at h
      simp only [cond_true, Option.some.injEq] at h
      rw [Bool.and_eq_true, Bool.and_eq_true] at hc
      refine ⟨e, List.mem_cons_self .., Nat.eq_of_beq_eq_true hc.1, eqI_spec _ _ _ hc.2.1, ?_, h.symm⟩
      have := eqI_spec _ _ _ hc.2.2
      rw [lTake_eq] at this
      exact this
    | false =>
      rw [hc] at h
      obtain ⟨e', h1, h2⟩ := pickE_spec (tab := rest) h
      exact ⟨e', List.mem_cons_of_mem _ h1, h2⟩

theorem ints_rel {ρ ρ' : Rho} {k : IntKind} : ∀ (l : List Nat) {vs : List Value}, VsRel ρ (l.map fun n : Nat => V.int k (n : Int)) vs → VsRel ρ' (l.map fun n : Nat => V.int k (n : Int)) vs
  | [], vs, h => by simp only [List.map_nil, VsRel] at h ⊢; exact h
  | n :: l, vs, h => by
    simp only [List.map_cons, VsRel] at h ⊢
    obtain ⟨v, r, h1, h2, h3⟩ := h
    exact ⟨v, r, h1, by simp only [VRel] at h2 ⊢; exact h2, ints_rel l h3⟩

/-- an entry's own run, in a heap of one block that is for reading alone -/
def EntOk (P : Program) (f : FuncId) (t : TypeId) (N : Nat) (e : Ent) : Prop :=
  ∃ st', (evN P (fun _ => none) N).call f [.agg (mkI .u32 e.w), .sl 0 e.off 64 (.open_ 1)] ⟨Tr.set .nil 0 (.cells t (e.off + 64) (mkI .u8 e.b) true), 1, 0, 0⟩ = .ok (.agg (mkI .u32 e.r)) st'

theorem addM_ok (hN : NoCount P) (hX : P.follows .mixedOrders = true) {f : FuncId} {t : TypeId} {N : Nat} {tab : List Ent} (ht : ∀ e ∈ tab, EntOk P f t N e) : CallOk P base f (addM t tab) := by
  intro args st v st' hm ρ w l hl hr hf R hR
  unfold addM at hm
  split at hm
  · rename_i x y
    split at hm
    · rename_i ws
      split at hm
      · rename_i b off len cap
        cases hc : and (Nat.beq len 64) (isOpen1 cap) with
        | false => rw [hc] at hm; simp only [cond_false] at hm; exact (no_ok hm).elim
        | true =>
          rw [hc] at hm
          simp only [cond_true] at hm
          rw [Bool.and_eq_true] at hc
          have hlen := Nat.eq_of_beq_eq_true hc.1
          subst hlen
          have hcap : cap = .open_ 1 := by
            cases cap with
            | exact k => cases hc.2
            | open_ z => rw [Nat.eq_of_beq_eq_true (show Nat.beq z 1 = true from hc.2)]
          subst hcap
          obtain ⟨bb, s1, h1, h2⟩ := bnd_ok hm
          obtain ⟨hx, hh, hn⟩ := getB_ok h1
          cases bb with
          | map es => exact (no_ok (show (no 304 : M V) s1 = .ok v st' from h2)).elim
          | dead => exact (no_ok (show (no 304 : M V) s1 = .ok v st' from h2)).elim
          | cells t' n cs ro =>
            have h2' : (cond (and (Nat.beq t' t) (Nat.ble (Nat.add off 64) n)) (addR (pickE ws off cs tab)) (no 303)) s1 = .ok v st' := h2
            cases hd : and (Nat.beq t' t) (Nat.ble (Nat.add off 64) n) with
            | false => rw [hd] at h2'; simp only [cond_false] at h2'; exact (no_ok h2').elim
            | true =>
              rw [hd] at h2'
              simp only [cond_true] at h2'
              rw [Bool.and_eq_true] at hd
              have htt := Nat.eq_of_beq_eq_true hd.1
              subst htt
              have hle : off + 64 ≤ n := Nat.le_of_ble_eq_true hd.2
              unfold addR at h2'
              cases hp : pickE ws off cs tab with
              | none => rw [hp] at h2'; exact (no_ok h2').elim
              | some r =>
                rw [hp] at h2'
                obtain ⟨rfl, rfl⟩ := ret_ok h2'
                obtain ⟨e, he, rfl, rfl, hcs, rfl⟩ := pickE_spec hp
                obtain ⟨u1, u2, rfl, hu1, hu2⟩ := vs2 hl
                simp only [VRel] at hu1 hu2
                obtain ⟨l1, rfl, hl1⟩ := hu1
                obtain ⟨blk, sz, c, hρ, rfl, hcr⟩ := hu2
                obtain ⟨k1, blk', sz', arr, fz, k2, k3, k4, k5, k6, k7⟩ := hr.blk b _ hx
                rw [hρ] at k2
                cases k2
                obtain ⟨st2, hrun⟩ := ht e he
                -- the small heap
                have hblk := hr.lt b blk _ hρ
                have hrel : Rel (fun z => if z = 0 then some (blk, arr.size) else none) w.heap.size (Tr.set .nil 0 (.cells t' (e.off + 64) (mkI .u8 e.b) true)) w := by
                  have hget : ∀ z b', (Tr.set .nil 0 (B.cells t' (e.off + 64) (mkI .u8 e.b) true)).get z = some b' → z = 0 ∧ b' = B.cells t' (e.off + 64) (mkI .u8 e.b) true := fun z b' hz => by
                    by_cases e0 : 0 = z
                    · subst e0; rw [Tr.get_set_same] at hz; cases hz; exact ⟨rfl, rfl⟩
                    · rw [Tr.get_set_ne _ _ e0, nil_get] at hz; cases hz
                  refine ⟨fun z b' hz => ?_, fun x y b' c' p s q t2 hx hy _ _ _ _ _ => by rw [(hget x b' hx).1, (hget y c' hy).1], fun z p s hz => ?_, Nat.le_refl _⟩
                  · obtain ⟨rfl, rfl⟩ := hget z b' hz
                    refine ⟨?_, blk, arr.size, arr, fz, by simp, k3, rfl, by omega, ?_, fun h => by cases h⟩
                    · unfold mkI
                      rw [lMap_eq, List.length_map]
                      have := congrArg List.length hcs
                      simp at this
                      omega
                    · unfold mkI
                      rw [lMap_eq]
                      have h6 := k6.take (e.off + 64)
                      rw [hcs, List.take_take, Nat.min_eq_left hle] at h6
                      exact ints_rel e.b h6
                  · split at hz
                    · simp only [Option.some.injEq, Prod.mk.injEq] at hz
                      rw [← hz.1]
                      exact hblk
                    · cases hz
                have hself := evN_ok (base := w.heap.size) hN hX (orc := fun _ => none) (fun _ _ h => by cases h) (fun _ _ h => by cases h) N
                refine hself.call f _ _ _ st2 hrun (fun z => if z = 0 then some (blk, arr.size) else none) w [.agg ⟨l1⟩, .slice (some ⟨blk, e.off, none⟩) 64 c] ?_ hrel ?_ R ?_
                · refine VsRel.cons ?_ (VsRel.cons ?_ VsRel.nil)
                  · simp only [VRel]
                    refine ⟨l1, rfl, ?_⟩
                    unfold mkI
                    rw [lMap_eq]
                    exact ints_rel e.w hl1
                  · simp only [VRel]
                    exact ⟨blk, arr.size, c, by simp, rfl, by rw [k4]; exact hcr⟩
                · intro z hz _
                  have : ¬ z = 0 := by
                    have h1z : 1 ≤ z := hz
                    omega
                  simp [this]
                · intro ρ' w' u o hu
                  have hb := o.below
                  have hbelow : Below base w w' := ⟨hb.os, hb.tape, hb.output, hb.size, fun k hk => hb.block k (by have := hr.base; omega)⟩
                  refine hR ρ w' u ?_ ?_
                  · rw [hh, hn]
                    refine ⟨⟨fun z b' hz => (hr.blk z b' hz).mono (Grow.refl _) fun _ p s hp => hb.block p (hr.lt z p s hp), hr.inj, fun z p s hz => ?_, ?_⟩, Grow.refl _, fun _ a b => absurd a b, hbelow⟩
                    · have := hr.lt z p s hz
                      have := hb.size
                      omega
                    · have := hr.base
                      have := hb.size
                      omega
                  · unfold mkI at hu ⊢
                    rw [lMap_eq] at hu ⊢
                    simp only [VRel] at hu ⊢
                    obtain ⟨l2, rfl, h2⟩ := hu
                    exact ⟨l2, rfl, ints_rel e.r h2⟩
      · exact (no_ok hm).elim
    · exact (no_ok hm).elim
  · exact (no_ok hm).elim
end Go.Ev
