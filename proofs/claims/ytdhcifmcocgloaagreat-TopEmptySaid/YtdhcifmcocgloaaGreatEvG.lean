/- Operations side by side: variables, zero values, fields, texts' and slices' lengths. -/
import Derived.Test.YtdhcifmcocgloaaGreatEvF
set_option linter.unusedSimpArgs false
set_option linter.unusedVariables false
namespace Go.Ev
open Go.RowKit (Below)
variable {P : Program} {base : Nat} {ρ0 : Rho}

theorem isAggO_run {t : TypeId} {g : Bool} (h : isAggO P t = some g) (w : World) : (isAgg t).run P w = .ok g w := by
  unfold isAggO at h
  cases hu : P.underlying t with
  | none => rw [hu] at h; cases h
  | some d =>
    rw [hu] at h
    simp only [Option.some.injEq] at h
    subst h
    cases d <;> simp [isAgg, run_underlying hu, isAggD]
theorem szOf_info {t : TypeId} {n : Nat} (h : szOf P t = some n) : ∃ i, P.info? t = some i ∧ i.size = n := by
  unfold szOf at h
  cases hi : P.info? t with
  | none => rw [hi] at h; cases h
  | some i => rw [hi] at h; simp only [Option.some.injEq] at h; exact ⟨i, rfl, h⟩
theorem szOf_run {t : TypeId} {n : Nat} (h : szOf P t = some n) (w : World) : (sizeOf t).run P w = .ok n w := by
  obtain ⟨i, hi, hn⟩ := szOf_info h
  simp [sizeOf, typeInfo, hi, hn]
theorem zeroV_run {t : TypeId} {z : V} (h : zeroV P t = some z) : ∃ u, (∀ w, (zeroValue t).run P w = .ok u w) ∧ ∀ ρ, VRel ρ z u := by
  unfold zeroV at h
  cases hi : P.info? t with
  | none => rw [hi] at h; cases h
  | some i =>
    rw [hi] at h
    simp only at h
    cases hz : i.zero with
    | none => rw [hz] at h; cases h
    | some u =>
      rw [hz] at h
      exact ⟨u, fun w => by simp [zeroValue, typeInfo, hi, hz], fun ρ => ofValue_rel u h⟩
theorem elemT_und {t e : TypeId} (h : elemT P t = some e) : P.underlying t = some (.slice e) := by
  unfold elemT at h
  split at h
  · rename_i e' hu; simp only [Option.some.injEq] at h; subst h; exact hu
  · cases h

abbrev SimV (P : Program) (base : Nat) (ρ0 : Rho) (m : M V) (s : Sem Value) : Prop := SimR P base VRel ρ0 m s
abbrev SimU (P : Program) (base : Nat) (ρ0 : Rho) (m : M Unit) (s : Sem Unit) : Prop := SimR P base (fun _ _ _ => True) ρ0 m s

theorem loadCellsB_ok {x off k : Nat} {l : List V} {st st' : S} (hm : loadCellsB x off k st = .ok l st') :
    ∃ t n cs ro, st.h.get x = some (.cells t n cs ro) ∧ off + k ≤ n ∧ l = lTake k (lDrop off cs) ∧ st'.h = st.h ∧ st'.n = st.n := by
  obtain ⟨b, s1, h1, h2⟩ := bnd_ok hm
  obtain ⟨hx, hh, hn⟩ := getB_ok h1
  cases b with
  | cells t n cs ro =>
    have h2' : cutL off k n cs s1 = .ok l st' := h2
    unfold cutL at h2'
    cases hc : Nat.ble (Nat.add off k) n with
    | false => rw [hc] at h2'; simp only [cond_false] at h2'; exact (no_ok h2').elim
    | true =>
      rw [hc] at h2'
      simp only [cond_true] at h2'
      obtain ⟨rfl, rfl⟩ := ret_ok h2'
      exact ⟨t, n, cs, ro, hx, Nat.le_of_ble_eq_true hc, rfl, hh, hn⟩
  | map es => exact (no_ok (show (no 11 : M (List V)) s1 = .ok l st' from h2)).elim
  | dead => exact (no_ok (show (no 11 : M (List V)) s1 = .ok l st' from h2)).elim
theorem sim_load1 {x off blk sz : Nat} {m : Mode} (hρ : ρ0 x = some (blk, sz)) :
    SimR P base (fun ρ l v => ∃ u, l = [u] ∧ VRel ρ u v) ρ0 (loadCellsB x off 1) (load ⟨blk, off, none⟩ m) := by
  intro st l st' hm ρ w he hr _
  obtain ⟨t, n, cs, ro, hx, hle, rfl, hh, hn⟩ := loadCellsB_ok hm
  obtain ⟨vs, hl, hv, hcell⟩ := cells_read (hr.blk x _ hx) (he _ _ hρ) hle
  match vs, hl, hv with
  | [v], _, hv =>
    have hc := hcell 0 v (by simp)
    rw [Addr.add_zero'] at hc
    have hlen := hv.length
    generalize lTake 1 (lDrop off cs) = q at *
    match q, hv with
    | [u], hv =>
      simp only [VsRel] at hv
      obtain ⟨v', r, e, hv, _⟩ := hv
      simp at e
      refine ⟨v, w, ρ, by rw [run_load]; simp [hc], ⟨u, rfl, by rw [e.1]; exact hv⟩, ?_⟩
      rw [hh, hn]; exact Out.refl hr
    | [], hv => simp at hlen
    | _ :: _ :: _, hv => simp at hlen

/-- a variable is read -/
theorem sim_loadVar {t : TypeId} {x off blk sz : Nat} (hρ : ρ0 x = some (blk, sz)) : SimV P base ρ0 (loadVarB P t x off) (loadVar t ⟨blk, off, none⟩) := by
  unfold loadVarB
  refine sim_opt fun g hg => ?_
  cases g with
  | true =>
    simp only [cond_true]
    refine sim_opt fun n hn => ?_
    refine sim_run (s' := loadCells ⟨blk, off, none⟩ n >>= fun cs => pure (.agg cs)) (fun w => ?_) ?_
    · simp [loadVar, isAggO_run hg, szOf_run hn]
    · refine sim_bnd good_loadCellsB (fun _ => good_aggR) (sim_loadCells hρ) ?_
      rintro ρ1 l vs he ⟨h1, h2⟩
      exact sim_ret fun ρ hρ' => by simp only [VRel]; exact ⟨vs.toList, by simp, h1.mono hρ'⟩
  | false =>
    simp only [cond_false]
    refine sim_run (s' := load ⟨blk, off, none⟩ >>= fun v => pure v) (fun w => ?_) ?_
    · have e : (loadVar t ⟨blk, off, none⟩).run P w = (load ⟨blk, off, none⟩).run P w := by
        simp only [loadVar, Sem.run_bind, isAggO_run hg, Result.andThen_ok]; rfl
      rw [e, Sem.run_bind]
      cases (load ⟨blk, off, none⟩).run P w <;> rfl
    refine sim_bnd good_loadCellsB (fun _ => good_one1) (sim_load1 hρ) ?_
    rintro ρ1 l v he ⟨u, rfl, hv⟩
    exact sim_ret fun ρ h => hv.mono h

/-- a variable is written -/
theorem sim_storeVar {t : TypeId} {x off blk sz : Nat} {v : V} {u : Value} (hρ : ρ0 x = some (blk, sz)) (hv : VRel ρ0 v u) : SimU P base ρ0 (storeVarB P t x off v) (storeVar t ⟨blk, off, none⟩ u) := by
  unfold storeVarB
  refine sim_opt fun n hn => ?_
  refine sim_cond (fun hb => ?_) fun _ => sim_no
  have hc := hv.cells
  have hlen : u.cells.size = n := by
    have h1 := hc.length
    have h2 := Nat.eq_of_beq_eq_true hb
    rw [lLen_eq] at h2
    simp at h1
    omega
  refine sim_run (s' := storeCells ⟨blk, off, none⟩ u.cells.toList) (fun w => ?_) (sim_storeCells hρ hc)
  simp [storeVar, szOf_run hn, hlen]
end Go.Ev
