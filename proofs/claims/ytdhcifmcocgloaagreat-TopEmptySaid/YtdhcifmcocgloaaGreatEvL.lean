/- Operations side by side (3): slicing. -/
import Derived.Test.YtdhcifmcocgloaaGreatEvK
set_option linter.unusedSimpArgs false
set_option linter.unusedVariables false
namespace Go.Ev
variable {P : Program} {base : Nat} {ρ0 ρ : Rho} {a : A} {act : Act}

def ORel (ρ : Rho) (o : Option V) (o' : Option Value) : Prop := match o with
  | none => o' = none
  | some v => ∃ u, o' = some u ∧ VRel ρ v u

def mOf (m : Option Nat) (cap : Nat) : Nat := match m with
  | none => cap
  | some m => m

theorem sliceBound_rel {v : V} {u : Value} {n y : Nat} (hn : asNat v = some n) (hr : VRel ρ v u) (h : n ≤ y) (code : BoundsCode) (w : World) : (Instr.sliceBound u y code).run P w = .ok n w := by
  obtain ⟨k, rfl⟩ := asNat_rel hn hr
  rw [run_sliceBound w k (n : Int) y code (by omega) (by omega)]
  rfl

def CapOk (co : Option Nat) (len cap : Nat) : Prop := match co with
  | some c => c = cap
  | none => len ≤ cap
def CapLe (m : Option Nat) (len cap : Nat) : Prop := match m with
  | some c => c ≤ cap
  | none => len ≤ cap
def boundM (isS : Bool) (cap : Nat) (mx' : Option Value) : Sem Nat := match mx' with
  | some v => Instr.sliceBound v cap (if isS then .slice3Acap else .slice3Alen)
  | none => pure cap
def boundH (isS : Bool) (len m : Nat) (hi' mx' : Option Value) : Sem Nat := match hi', mx' with
  | some v, some _ => Instr.sliceBound v m .slice3B
  | some v, none => Instr.sliceBound v m (if isS then .sliceAcap else .sliceAlen)
  | none, none => pure len
  | none, some _ => stuck "Slice: max without high"
def boundL (h : Nat) (lo' mx' : Option Value) : Sem Nat := match lo' with
  | some v => Instr.sliceBound v h (if mx'.isSome then .slice3C else .sliceB)
  | none => pure 0
theorem sliceBounds_eq (isS : Bool) (len cap : Nat) (lo' hi' mx' : Option Value) :
    Instr.sliceBounds isS len cap lo' hi' mx' = (do let m ← boundM isS cap mx'; let h ← boundH isS len m hi' mx'; let l ← boundL h lo' mx'; pure (l, h, m)) := by
  cases lo' <;> cases hi' <;> cases mx' <;> rfl

theorem bdM_ok {len cap : Nat} {co : Option Nat} {mx : Option V} {mx' : Option Value} {m : Option Nat} (isS : Bool) (hco : CapOk co len cap) (hm : ORel ρ mx mx')
    (h : bdM len co mx = some m) : (∀ w, (boundM isS cap mx').run P w = .ok (mOf m cap) w) ∧ CapLe m len cap := by
  unfold bdM at h
  cases mx with
  | none =>
    simp only [ORel] at hm
    subst hm
    simp only [Option.some.injEq] at h
    subst h
    cases co with
    | none => exact ⟨fun w => rfl, hco⟩
    | some c => simp only [CapOk] at hco; subst hco; exact ⟨fun w => rfl, Nat.le_refl _⟩
  | some v =>
    simp only at h
    obtain ⟨u, rfl, hu⟩ := hm
    split at h
    · cases h
    · rename_i n hn
      cases hb : Nat.ble n (co.getD len) with
      | false => rw [hb] at h; cases h
      | true =>
        rw [hb] at h
        simp only [cond_true, Option.some.injEq] at h
        subst h
        have hle : n ≤ co.getD len := Nat.le_of_ble_eq_true hb
        have hle2 : n ≤ cap := by cases co with
          | none => simp [CapOk] at hle hco; omega
          | some c => simp [CapOk] at hle hco; omega
        exact ⟨fun w => sliceBound_rel hn hu hle2 _ w, hle2⟩

theorem bdS_ok {len cap : Nat} {co : Option Nat} {lo hi mx : Option V} {lo' hi' mx' : Option Value} {l h : Nat} {m : Option Nat} (isS : Bool) (hco : CapOk co len cap) 
    (hl : ORel ρ lo lo') (hh : ORel ρ hi hi') (hm : ORel ρ mx mx') (hb : bdS len co lo hi mx = some (l, h, m)) :
    (∀ w, (Instr.sliceBounds isS len cap lo' hi' mx').run P w = .ok (l, h, mOf m cap) w) ∧ l ≤ h ∧ (m = none → h ≤ len) := by
  unfold bdS at hb
  split at hb
  · cases hb
  · rename_i m0 hm0
    split at hb
    · cases hb
    · rename_i h0 hh0
      split at hb
      · cases hb
      · rename_i l0 hl0
        simp only [force_eq, Option.some.injEq, Prod.mk.injEq] at hb
        obtain ⟨rfl, rfl, rfl⟩ := hb
        obtain ⟨e1, f1⟩ := bdM_ok (P := P) isS hco hm hm0
        have key : (∀ w, (boundH isS len (mOf m0 cap) hi' mx').run P w = .ok h0 w) ∧ (m0 = none → h0 ≤ len) := by
          unfold bdH at hh0
          cases hi with
          | none =>
            simp only [ORel] at hh
            subst hh
            cases mx with
            | none =>
              simp only [ORel] at hm
              subst hm
              simp only [Option.some.injEq] at hh0
              subst hh0
              exact ⟨fun w => rfl, fun _ => Nat.le_refl _⟩
            | some z => cases hh0
          | some v =>
            simp only at hh0
            obtain ⟨u, rfl, hu⟩ := hh
            split at hh0
            · cases hh0
            · rename_i n hn
              cases hb : Nat.ble n (m0.getD len) with
              | false => rw [hb] at hh0; cases hh0
              | true =>
                rw [hb] at hh0
                simp only [cond_true, Option.some.injEq] at hh0
                subst hh0
                have hle : n ≤ m0.getD len := Nat.le_of_ble_eq_true hb
                have hle2 : n ≤ mOf m0 cap := by cases m0 with
                  | none => simp [CapLe] at hle f1; simp [mOf]; omega
                  | some c => simp at hle; simp [mOf]; omega
                refine ⟨fun w => ?_, fun e => by subst e; simpa using hle⟩
                cases mx' with
                | none => exact sliceBound_rel hn hu hle2 _ w
                | some z => exact sliceBound_rel hn hu hle2 _ w
        have key2 : (∀ w, (boundL h0 lo' mx').run P w = .ok l0 w) ∧ l0 ≤ h0 := by
          unfold bdL at hl0
          cases lo with
          | none =>
            simp only [ORel] at hl
            subst hl
            simp only [Option.some.injEq] at hl0
            subst hl0
            exact ⟨fun w => rfl, Nat.zero_le _⟩
          | some v =>
            simp only at hl0
            obtain ⟨u, rfl, hu⟩ := hl
            split at hl0
            · cases hl0
            · rename_i n hn
              cases hb : Nat.ble n h0 with
              | false => rw [hb] at hl0; cases hl0
              | true =>
                rw [hb] at hl0
                simp only [cond_true, Option.some.injEq] at hl0
                subst hl0
                have hle : n ≤ h0 := Nat.le_of_ble_eq_true hb
                exact ⟨fun w => sliceBound_rel hn hu hle _ w, hle⟩
        refine ⟨fun w => ?_, key2.2, key.2⟩
        rw [sliceBounds_eq, Sem.run_bind, e1 w, Result.andThen_ok, Sem.run_bind, key.1 w, Result.andThen_ok, Sem.run_bind, key2.1 w, Result.andThen_ok]
        rfl

theorem cutX_rel {b off sz l h m blk k : Nat} (hρ : ρ b = some (blk, k)) :
    VRel ρ (cutX b off sz l h m) (.slice (some (if m = l then (⟨blk, off, none⟩ : Addr) else (⟨blk, off, none⟩ : Addr).add (l * sz))) (h - l) (m - l)) := by
  unfold cutX
  cases hb : Nat.beq m l with
  | true =>
    have := Nat.eq_of_beq_eq_true hb
    simp only [cond_true, VRel]
    exact ⟨blk, k, m - l, hρ, by rw [if_pos this]; rfl, rfl⟩
  | false =>
    have : ¬ m = l := fun e => by subst e; rw [Nat.beq_refl] at hb; cases hb
    simp only [cond_false, force_eq, VRel]
    exact ⟨blk, k, m - l, hρ, by rw [if_neg this, Addr.add_lit]; rfl, rfl⟩

theorem bdS_none {len : Nat} {lo hi : Option V} {l h : Nat} {m : Option Nat} (hb : bdS len none lo hi none = some (l, h, m)) : m = none := by
  unfold bdS at hb
  simp only [bdM] at hb
  split at hb
  · cases hb
  · split at hb
    · cases hb
    · simp only [force_eq, Option.some.injEq, Prod.mk.injEq] at hb
      exact hb.2.2.symm
theorem bdS_le {lo hi mx : Option V} {l h : Nat} {m : Option Nat} (hb : bdS 0 (some 0) lo hi mx = some (l, h, m)) : h = 0 ∧ l = 0 ∧ mOf m 0 = 0 := by
  unfold bdS at hb
  split at hb
  · cases hb
  · rename_i m0 hm0
    split at hb
    · cases hb
    · rename_i h0 hh0
      split at hb
      · cases hb
      · rename_i l0 hl0
        simp only [force_eq, Option.some.injEq, Prod.mk.injEq] at hb
        obtain ⟨rfl, rfl, rfl⟩ := hb
        have cl : ∀ (n y : Nat) {α : Type} {x r : α}, cond (Nat.ble n y) (some x) none = some r → n ≤ y ∧ x = r := by
          intro n y α x r hc
          cases hb : Nat.ble n y with
          | false => rw [hb] at hc; cases hc
          | true => rw [hb] at hc; simp only [cond_true, Option.some.injEq] at hc; exact ⟨Nat.le_of_ble_eq_true hb, hc⟩
        have f1 : m0 = some 0 := by
          unfold bdM at hm0
          cases mx with
          | none => simp only [Option.some.injEq] at hm0; exact hm0.symm
          | some v =>
            simp only at hm0
            split at hm0
            · cases hm0
            · obtain ⟨h1, h2⟩ := cl _ _ hm0
              simp at h1
              subst h1
              exact h2.symm
        subst f1
        have f2 : h0 = 0 := by
          unfold bdH at hh0
          cases hi with
          | none => cases mx with
            | none => simp only [Option.some.injEq] at hh0; exact hh0.symm
            | some z => cases hh0
          | some v =>
            simp only at hh0
            split at hh0
            · cases hh0
            · obtain ⟨h1, h2⟩ := cl _ _ hh0
              simp at h1
              omega
        subst f2
        have f3 : l0 = 0 := by
          unfold bdL at hl0
          cases lo with
          | none => simp only [Option.some.injEq] at hl0; exact hl0.symm
          | some v =>
            simp only at hl0
            split at hl0
            · cases hl0
            · obtain ⟨h1, h2⟩ := cl _ _ hl0
              omega
        exact ⟨rfl, f3, rfl⟩
theorem slice_addr (ad : Addr) (l h m sz : Nat) (w : World) : (pure (.slice (if m = l then some ad else (some ad).map (·.add (l * sz))) (h - l) (m - l)) : Sem Value).run P w = .ok (.slice (some (if m = l then ad else ad.add (l * sz))) (h - l) (m - l)) w := by
  by_cases e : m = l
  · rw [if_pos e, if_pos e]; rfl
  · rw [if_neg e, if_neg e]; rfl

theorem sliceV_run {t : TypeId} {x v : V} {u : Value} {lo hi mx : Option V} {lo' hi' mx' : Option Value} (hx : VRel ρ0 x u) (hl : ORel ρ0 lo lo') (hh : ORel ρ0 hi hi') (hm : ORel ρ0 mx mx')
    (h : sliceV P t x lo hi mx = some v) : ∃ r, (∀ w, (Instr.sliceAt t u lo' hi' mx').run P w = .ok r w) ∧ VRel ρ0 v r := by
  unfold sliceV at h
  split at h
  · -- a pointer to an array
    rename_i b off
    simp only [VRel] at hx
    obtain ⟨blk, k, hρ, rfl⟩ := hx
    unfold slicePtr at h
    split at h
    · rename_i n e hu
      split at h
      · rename_i sz hs
        unfold sliceX at h
        split at h
        · rename_i l0 h0 m0 hb
          simp only [Option.some.injEq] at h
          subst h
          obtain ⟨e1, _, _⟩ := bdS_ok (P := P) (cap := n) false (by rfl) hl hh hm hb
          refine ⟨_, fun w => ?_, cutX_rel hρ⟩
          simp only [Instr.sliceAt, Sem.run_bind, run_underlying hu, Result.andThen_ok, Instr.sureAddr, Sem.run_pure, e1 w, szOf_run hs, mOf]
        · cases h
      · cases h
    · cases h
  · -- a text
    rename_i cs
    simp only [VRel] at hx
    obtain ⟨b, rfl, hb⟩ := hx
    unfold sliceStr at h
    split at h
    · rename_i hu
      split at h
      · simp only [ORel] at hm
        subst hm
        split at h
        · rename_i l0 h0 m0 hbd
          simp only [Option.some.injEq] at h
          subst h
          have hsz : lLen cs = b.size := by rw [lLen_eq, ← hb, List.length_map, Array.length_toList]; rfl
          rw [hsz] at hbd
          obtain ⟨e1, _, _⟩ := bdS_ok (P := P) (cap := b.size) (mx' := none) false (by rfl) hl hh (show ORel ρ0 none none from rfl) hbd
          refine ⟨.string (b.extract l0 h0), fun w => ?_, ?_⟩
          · simp only [Instr.sliceAt, Sem.run_bind, run_underlying hu, Result.andThen_ok, Instr.slice, Option.isSome_none, Bool.false_eq_true, if_false, e1 w]
            rfl
          · simp only [VRel]
            refine ⟨_, rfl, ?_⟩
            rw [lTake_eq, lDrop_eq, ← hb, ByteArray.data_extract]
            simp
        · cases h
      · cases h
    · cases h
  · -- the nil slice
    simp only [VRel] at hx
    subst hx
    unfold sliceNil at h
    split at h
    · rename_i e hu
      split at h
      · rename_i sz hs
        split at h
        · rename_i q hbd
          obtain ⟨l0, h0, m0⟩ := q
          simp only [Option.some.injEq] at h
          subst h
          obtain ⟨e1, hle, hm0⟩ := bdS_ok (P := P) (cap := 0) true (by rfl) hl hh hm hbd
          have hf := bdS_le hbd
          have hz : h0 = 0 ∧ l0 = 0 ∧ mOf m0 0 = 0 := hf
          obtain ⟨rfl, rfl, hz⟩ := hz
          refine ⟨.slice none 0 0, fun w => ?_, by simp only [VRel]⟩
          simp only [Instr.sliceAt, Sem.run_bind, run_underlying hu, Result.andThen_ok, Instr.slice, e1 w, szOf_run hs, hz]
          rfl
        · cases h
      · cases h
    · cases h
  · -- a slice of no elements
    simp only [VRel] at hx
    obtain ⟨ad, c, rfl⟩ := hx
    unfold sliceEmp at h
    split at h
    · rename_i e hu
      split at h
      · rename_i sz hs
        split at h
        · simp only [ORel] at hm
          subst hm
          split at h
          · rename_i q hbd
            obtain ⟨l0, h0, m0⟩ := q
            simp only [Option.some.injEq] at h
            subst h
            obtain ⟨e1, hle, hm0⟩ := bdS_ok (P := P) (cap := c) (mx' := none) true (co := none) (Nat.zero_le c) hl hh (show ORel ρ0 none none from rfl) hbd
            have hm1 : m0 = none := bdS_none hbd
            have h00 : h0 = 0 := by have := hm0 hm1; omega
            subst hm1
            have l00 : l0 = 0 := by omega
            subst h00
            subst l00
            refine ⟨.slice (some ad) 0 c, fun w => ?_, by simp only [VRel]; exact ⟨ad, c, rfl⟩⟩
            simp only [Instr.sliceAt, Sem.run_bind, run_underlying hu, Result.andThen_ok, Instr.slice, e1 w, szOf_run hs, mOf]
            by_cases hc : c = 0
            · subst hc; rfl
            · rw [if_neg hc]
              obtain ⟨ab, ao, ai⟩ := ad
              simp [Addr.add]
          · cases h
        · cases h
      · cases h
    · cases h
  · -- a slice
    rename_i b off len cap
    simp only [VRel] at hx
    obtain ⟨blk, k, c, hρ, rfl, hcap⟩ := hx
    unfold sliceSl at h
    split at h
    · rename_i e hu
      split at h
      · rename_i sz hs
        split at h
        · rename_i c'
          simp only [capRel] at hcap
          subst hcap
          unfold sliceX at h
          split at h
          · rename_i l0 h0 m0 hb
            simp only [Option.some.injEq] at h
            subst h
            obtain ⟨e1, _, _⟩ := bdS_ok (P := P) (cap := c) true (by rfl) hl hh hm hb
            refine ⟨_, fun w => ?_, cutX_rel hρ⟩
            simp only [Instr.sliceAt, Sem.run_bind, run_underlying hu, Result.andThen_ok, Instr.slice, e1 w, szOf_run hs, mOf]
            exact slice_addr _ _ _ _ _ w
          · cases h
        · rename_i z
          simp only [capRel] at hcap
          unfold sliceO at h
          split at h
          · rename_i l0 h0 m0 hb
            simp only [Option.some.injEq] at h
            subst h
            obtain ⟨e1, _, _⟩ := bdS_ok (P := P) (cap := c) true (co := none) hcap.2 hl hh hm hb
            refine ⟨_, fun w => ?_, cutX_rel hρ⟩
            simp only [Instr.sliceAt, Sem.run_bind, run_underlying hu, Result.andThen_ok, Instr.slice, e1 w, szOf_run hs, mOf]
            exact slice_addr _ _ _ _ _ w
          · rename_i l0 h0 hb
            obtain ⟨e1, hle, hm0⟩ := bdS_ok (P := P) (cap := c) true (co := none) hcap.2 hl hh hm hb
            have hlen := hm0 rfl
            unfold cutO at h
            cases hz : Nat.beq z sz with
            | false => rw [hz] at h; cases h
            | true =>
              rw [hz] at h
              have hz' := Nat.eq_of_beq_eq_true hz
              subst hz'
              simp only [cond_true] at h
              cases hq : or (Nat.beq l0 0) (Nat.blt l0 len) with
              | true =>
                rw [hq] at h
                simp only [cond_true, force_eq, Option.some.injEq] at h
                subst h
                have hq' : l0 = 0 ∨ l0 < len := by
                  rw [Bool.or_eq_true] at hq
                  rcases hq with hq | hq
                  · exact Or.inl (Nat.eq_of_beq_eq_true hq)
                  · exact Or.inr (by simpa [Nat.blt_eq] using hq)
                refine ⟨.slice (some ⟨blk, off + l0 * z, none⟩) (h0 - l0) (c - l0), fun w => ?_, ?_⟩
                · simp only [Instr.sliceAt, Sem.run_bind, run_underlying hu, Result.andThen_ok, Instr.slice, e1 w, szOf_run hs, mOf]
                  by_cases hc : c = l0
                  · have hl00 : l0 = 0 := by omega
                    subst hl00
                    rw [if_pos hc]
                    simp
                  · rw [if_neg hc]
                    simp [Addr.add_lit]
                · simp only [VRel]
                  refine ⟨blk, k, c - l0, hρ, rfl, ?_, show h0 - l0 ≤ c - l0 by omega⟩
                  show off + l0 * z + (c - l0) * z = k
                  have h1 := hcap.1
                  have h2 := hcap.2
                  have : c * z = l0 * z + (c - l0) * z := by rw [← Nat.add_mul]; congr 1; omega
                  omega
              | false =>
                rw [hq] at h
                simp only [cond_false, Option.some.injEq] at h
                subst h
                have hq' : len ≤ l0 := by
                  rw [Bool.or_eq_false_iff] at hq
                  have := hq.2
                  have h3 : ¬ l0 < len := fun hh => by rw [← Nat.blt_eq] at hh; rw [hh] at this; cases this
                  omega
                have h00 : h0 - l0 = 0 := by omega
                refine ⟨.slice (some (if c = l0 then ⟨blk, off, none⟩ else (⟨blk, off, none⟩ : Addr).add (l0 * z))) 0 (c - l0), fun w => ?_, by simp only [VRel]; exact ⟨_, _, rfl⟩⟩
                simp only [Instr.sliceAt, Sem.run_bind, run_underlying hu, Result.andThen_ok, Instr.slice, e1 w, szOf_run hs, mOf, h00]
                by_cases hc : c = l0
                · rw [if_pos hc, if_pos hc]; rfl
                · rw [if_neg hc, if_neg hc]; rfl
          · cases h
      · cases h
    · cases h
  · cases h

theorem sim_evO {β : Type} (hA : ARel ρ0 a act) {o : Option Operand} {f : Option V → M V} {s : Sem Value} (h : ∀ v, ORel ρ0 v (o.map act.eval) → SimV P base ρ0 (f v) s) : SimV P base ρ0 (bnd (evO a o) f) s := by
  intro st c st' hm
  obtain ⟨v, s1, h1, h2⟩ := bnd_ok hm
  unfold evO at h1
  cases o with
  | none =>
    obtain ⟨rfl, rfl⟩ := ret_ok h1
    exact h none rfl st c st' h2
  | some y =>
    obtain ⟨u, s2, h3, h4⟩ := bnd_ok h1
    obtain ⟨rfl, rfl⟩ := ret_ok h4
    unfold evM at h3
    obtain ⟨hu, rfl⟩ := opt_ok h3
    exact h (some u) ⟨_, rfl, eval_rel hA hu⟩ st c st' h2

theorem sim_opSlice (hA : ARel ρ0 a act) {t : TypeId} {x : Operand} {lo hi mx : Option Operand} : SimV P base ρ0 (opSlice P a t x lo hi mx) (Instr.sliceAt t (act.eval x) (lo.map act.eval) (hi.map act.eval) (mx.map act.eval)) := by
  unfold opSlice evM
  refine sim_opt fun v hv => sim_evO (β := V) hA fun l hl => sim_evO (β := V) hA fun h hh => sim_evO (β := V) hA fun m hm => sim_optr fun u hu => ?_
  obtain ⟨r, e1, e2⟩ := sliceV_run (eval_rel hA hv) hl hh hm hu
  exact sim_pure e1 fun ρ hg => e2.mono hg
end Go.Ev
