/- Operations side by side (7): the built-in functions. -/
import Derived.Test.YtdhcifmcocgloaaGreatEvO
import Derived.Laws.Small
set_option linter.unusedSimpArgs false
set_option linter.unusedVariables false
namespace Go.Ev
open Go.RowKit (Below)
variable {P : Program} {base : Nat} {ρ0 ρ : Rho} {a : A} {act : Act}

theorem isIntT_eq {xt : TypeId} {dx : TypeDesc} (h : P.underlying xt = some dx) : isIntT P xt = isIntD dx := by
  unfold isIntT
  rw [h]
  cases dx <;> rfl

theorem sim_appendB {t xt ty : TypeId} {s x : V} {us ux : Value} (hs : VRel ρ0 s us) (hx : VRel ρ0 x ux) : SimV P base ρ0 (appendB P t xt s x) (Builtin.append_ #[t, xt] ty #[us, ux]) := by
  unfold appendB
  refine sim_cond (fun hu => ?_) fun _ => sim_no
  obtain ⟨dx, hdx⟩ := hasU_ok hu
  unfold append1
  rw [isIntT_eq hdx]
  refine sim_opt fun e he => sim_opt fun sz hsz => sim_opt fun m hm => ?_
  rw [force_eq]
  unfold apB
  refine sim_cond (fun hb => ?_) fun _ => sim_no
  rw [Bool.and_eq_true, Bool.and_eq_true] at hb
  have hpos : 0 < sz := by simpa [Nat.blt_eq] using hb.1
  have hsmall : m < 1048576 := by simpa [Nat.blt_eq] using hb.2.2
  obtain ⟨i, hi, his⟩ := szOf_info hsz
  have hbytes := bytesOk_ok hi hb.2.1
  obtain ⟨hlen, hsrc⟩ := lenIs_of hm hx
  have ht := elemT_und he
  refine sim_cond (fun hsl => ?_) fun _ => sim_no
  refine sim_cond (fun h0 => ?_) fun h0 => ?_
  · -- nothing is appended
    have hm0 := Nat.eq_of_beq_eq_true h0
    subst hm0
    refine sim_cond (fun hcap => ?_) fun _ => sim_no
    refine sim_pure (b := us) (fun w => ?_) fun ρ hg => hs.mono hg
    have hap : ∀ w, (appended (isIntD dx) e sz 0 ux).run P w = .ok #[] w := appended_zero _ _ _ hx (by rcases hsrc with h | h; exact Or.inl h; exact Or.inr (by rw [h]; simp))
    have fits : ∀ (b : Option Addr) (l c : Nat), l ≤ c → us = .slice b l c → (Builtin.append_ #[t, xt] ty #[us, ux]).run P w = .ok us w := by
      rintro b l c hle rfl
      by_cases hI : isIntD dx = true
      · have hk : ∃ k, dx = .int k := by cases dx <;> first | exact ⟨_, rfl⟩ | cases hI
        obtain ⟨k, rfl⟩ := hk
        obtain ⟨k2, rfl⟩ := hlen
        have hwrap : IntKind.i64.wrap (0 : Int) = 0 := by decide
        cases b with
        | none => simp [Builtin.append_, run_underlying ht, run_underlying hdx, sizeOf, typeInfo, hi, asInt, asIntOf, hwrap, hle]
        | some ad => simp [Builtin.append_, run_underlying ht, run_underlying hdx, sizeOf, typeInfo, hi, asInt, asIntOf, hwrap, hle, storeCells]
      · have := run_append_fits (P := P) (w := w) (w' := w) (ty := ty) (z := .tuple #[]) ht hdx hi hlen hsmall hbytes (b := b) (sLen := l) (sCap := c) hle (new := #[]) (fun h => (hI h).elim) (by rw [his]; exact hap w)
          (by cases b with
            | none => rfl
            | some ad => rfl)
        exact this
    cases s with
    | nils => simp only [VRel] at hs; exact fits none 0 0 (Nat.le_refl _) hs
    | emp => simp only [VRel] at hs; obtain ⟨ad, c, h⟩ := hs; exact fits _ 0 c (Nat.zero_le _) h
    | sl b off len cap =>
      simp only [VRel] at hs
      obtain ⟨blk, tot, c, hρ, h, hcr⟩ := hs
      refine fits _ len c ?_ h
      cases cap with
      | exact k => have hk : c = k := hcr; subst hk; exact Nat.le_of_ble_eq_true hcap
      | open_ z => exact hcr.2
    | _ => cases hsl
  · have hm0 : m ≠ 0 := fun e => by subst e; cases h0
    intro st v st' hrun ρ w hg hr hf
    obtain ⟨c, s1, h1, h2⟩ := bnd_ok hrun
    unfold apFit at h2
    cases hcl : Nat.beq (lLen c) (Nat.mul m sz) with
    | false => rw [hcl] at h2; simp only [cond_false] at h2; exact (no_ok h2).elim
    | true =>
      rw [hcl] at h2
      simp only [cond_true] at h2
      have hclen : c.length = m * sz := by have := Nat.eq_of_beq_eq_true hcl; rw [lLen_eq] at this; exact this
      have hms : m * sz ≠ 0 := by
        have := Nat.mul_pos (Nat.pos_of_ne_zero hm0) hpos
        omega
      obtain ⟨hh, hn, new, hnew, hread⟩ := apSrc_ok (P := P) (base := base) h1 hr (hx.mono hg) hsrc hms hclen
      have hz : ∃ z0, isIntD dx = true → ∀ w, (zeroValue e).run P w = .ok z0 w := by
        by_cases hI : isIntD dx = true
        · unfold apSrc at h1
          rw [hI] at h1
          simp only [cond_true] at h1
          obtain ⟨z, s2, h3, h4⟩ := bnd_ok h1
          obtain ⟨hz, rfl⟩ := opt_ok h3
          obtain ⟨u, hu, _⟩ := zeroV_run hz
          exact ⟨u, fun _ => hu⟩
        · exact ⟨.tuple #[], fun h => (hI h).elim⟩
      obtain ⟨z0, hz0⟩ := hz
      have hlen' : LenIs P (isIntD dx) ux m := hlen
      have C : ApCtx P ρ t xt e dx i sz m c ux z0 new := ⟨ht, hdx, hi, his, hpos, hlen', hsmall, hbytes, hnew, hclen, hz0⟩
      have hap := hread
      have hr1 : Rel ρ base s1.h w := by rw [hh]; exact hr
      have hf1 : ∀ x, s1.n ≤ x → x < st'.n → ρ x = none := fun y hy hy' => hf y (by omega) hy'
      have fin : ApRes P ρ base t xt ty us ux w s1 st' v := by
        cases s with
        | nils =>
          simp only [VRel] at hs
          subst hs
          exact apNew_ok C hap (Nat.pos_of_ne_zero hm0) h2 hr1 hf1
        | sl b off len cap =>
          have hs' := hs.mono hg
          simp only [VRel] at hs'
          obtain ⟨blk, tot, rc, hρ, rfl, hcr⟩ := hs'
          cases cap with
          | exact k =>
            have hk : rc = k := hcr
            subst hk
            obtain ⟨bb, s2, h3, h4⟩ := bnd_ok (show (bnd (getB b) (apExact P e sz b off len m rc c)) s1 = .ok v st' from h2)
            obtain ⟨hx3, hh3, hn3⟩ := getB_ok h3
            have hr2 : Rel ρ base s2.h w := by rw [hh3]; exact hr1
            have hf2 : ∀ x, s2.n ≤ x → x < st'.n → ρ x = none := fun y hy hy' => hf1 y (by omega) hy'
            cases bb with
            | cells tt n cs ro =>
              have h4' : (cond (Nat.ble (Nat.add len m) rc) (apRoom sz b off len m (.exact rc) c) (apGrow P e sz off len m n cs c)) s2 = .ok v st' := h4
              cases hfit : Nat.ble (Nat.add len m) rc with
              | true =>
                rw [hfit] at h4'
                simp only [cond_true] at h4'
                obtain ⟨r, w', ρ', e1, e2, e3⟩ := apRoom_ok (ty := ty) C hap hρ hcr (Nat.le_of_ble_eq_true hfit) h4' hr2 hf2
                exact ⟨r, w', ρ', e1, e2, by rw [← hn3]; exact e3⟩
              | false =>
                rw [hfit] at h4'
                simp only [cond_false] at h4'
                obtain ⟨_, blk', tot', arr, fz, k2, k3, k4, k5, k6, k7⟩ := hr1.blk b _ hx3
                rw [hρ] at k2
                cases k2
                have hnf : ¬ len + m ≤ rc := fun h => by have := Nat.ble_eq_true_of_le h; rw [show Nat.ble (len + m) rc = Nat.ble (Nat.add len m) rc from rfl, hfit] at this; cases this
                obtain ⟨r, w', ρ', e1, e2, e3⟩ := apGrow_ok (ty := ty) (cap := rc) (off := off) C hap k3 (by omega) k6 (by omega) h4' hr2 hf2
                exact ⟨r, w', ρ', e1, e2, by rw [← hn3]; exact e3⟩
            | map es => exact (no_ok (show (no 40 : M V) s2 = .ok v st' from h4)).elim
            | dead => exact (no_ok (show (no 40 : M V) s2 = .ok v st' from h4)).elim
          | open_ z =>
            obtain ⟨bb, s2, h3, h4⟩ := bnd_ok (show (bnd (getB b) (apOpen P e sz z b off len m c)) s1 = .ok v st' from h2)
            obtain ⟨hx3, hh3, hn3⟩ := getB_ok h3
            have hr2 : Rel ρ base s2.h w := by rw [hh3]; exact hr1
            have hf2 : ∀ x, s2.n ≤ x → x < st'.n → ρ x = none := fun y hy hy' => hf1 y (by omega) hy'
            cases bb with
            | cells tt n cs ro =>
              have h4' : (cond ro (no 37) (cond (and (Nat.beq z sz) (Nat.beq tt e)) (cond (Nat.ble (Nat.add off (Nat.mul (Nat.add len m) sz)) n) (apRoom sz b off len m (.open_ z) c) (apMove P e sz b off len m n cs c)) (no 38))) s2 = .ok v st' := h4
              cases ro with
              | true => simp only [cond_true] at h4'; exact (no_ok h4').elim
              | false =>
                simp only [cond_false] at h4'
                cases hze : and (Nat.beq z sz) (Nat.beq tt e) with
                | false => rw [hze] at h4'; simp only [cond_false] at h4'; exact (no_ok h4').elim
                | true =>
                  rw [hze] at h4'
                  simp only [cond_true] at h4'
                  rw [Bool.and_eq_true] at hze
                  have hz1 := Nat.eq_of_beq_eq_true hze.1
                  have ht1 := Nat.eq_of_beq_eq_true hze.2
                  subst hz1
                  subst ht1
                  cases hfit : Nat.ble (Nat.add off (Nat.mul (Nat.add len m) z)) n with
                  | true =>
                    rw [hfit] at h4'
                    simp only [cond_true] at h4'
                    have hle : off + (len + m) * z ≤ n := Nat.le_of_ble_eq_true hfit
                    obtain ⟨_, blk', tot', arr, fz, k2, k3, k4, k5, k6, k7⟩ := hr1.blk b _ hx3
                    rw [hρ] at k2
                    cases k2
                    have hroom : len + m ≤ rc := by
                      have h5 := hcr.1
                      have h6 : (len + m) * z ≤ rc * z := by omega
                      exact Nat.le_of_mul_le_mul_right h6 hpos
                    obtain ⟨r, w', ρ', e1, e2, e3⟩ := apRoom_ok (ty := ty) C hap hρ hcr hroom h4' hr2 hf2
                    exact ⟨r, w', ρ', e1, e2, by rw [← hn3]; exact e3⟩
                  | false =>
                    rw [hfit] at h4'
                    simp only [cond_false] at h4'
                    obtain ⟨r, w', ρ', e1, e2, e3⟩ := apMove_ok (ty := ty) C hap (by rw [hh3]; exact hx3) hρ hcr h4' hr2 hf2
                    exact ⟨r, w', ρ', e1, e2, by rw [← hn3]; exact e3⟩
            | map es => exact (no_ok (show (no 39 : M V) s2 = .ok v st' from h4)).elim
            | dead => exact (no_ok (show (no 39 : M V) s2 = .ok v st' from h4)).elim
        | emp => exact (no_ok (show (no 41 : M V) s1 = .ok v st' from h2)).elim
        | _ => cases hsl
      obtain ⟨r, w', ρ', e1, e2, e3⟩ := fin
      exact ⟨r, w', ρ', e1, e2, by rw [← hn]; exact e3⟩

theorem vs1 {x : V} {l : List Value} (h : VsRel ρ [x] l) : ∃ u, l = [u] ∧ VRel ρ x u := by
  simp only [VsRel] at h
  obtain ⟨v, r, rfl, h1, rfl⟩ := h
  exact ⟨v, rfl, h1⟩
theorem vs2 {x y : V} {l : List Value} (h : VsRel ρ [x, y] l) : ∃ u v, l = [u, v] ∧ VRel ρ x u ∧ VRel ρ y v := by
  simp only [VsRel] at h
  obtain ⟨v, r, rfl, h1, u, q, rfl, h2, rfl⟩ := h
  exact ⟨v, u, rfl, h1, h2⟩
theorem vs3 {x y z : V} {l : List Value} (h : VsRel ρ [x, y, z] l) : ∃ u v t, l = [u, v, t] ∧ VRel ρ x u ∧ VRel ρ y v ∧ VRel ρ z t := by
  simp only [VsRel] at h
  obtain ⟨v, r, rfl, h1, u, q, rfl, h2, t, q2, rfl, h3, rfl⟩ := h
  exact ⟨v, u, t, rfl, h1, h2, h3⟩

def NRel (ρ : Rho) (n : Nx) (m : Next) : Prop := match n with
  | .val v => ∃ u, m = .value u ∧ VRel ρ v u
  | .skip => m = .skip
  | .call f args => ∃ l, m = .enter f ⟨l⟩ ∧ VsRel ρ args l
  | .dfr f args => ∃ d, m = .defer d ∧ DRel ρ (f, args) d
abbrev SimN (P : Program) (base : Nat) (ρ0 : Rho) (m : M Nx) (s : Sem Next) : Prop := SimR P base NRel ρ0 m s

theorem sim_nval {m : M V} {s : Sem Value} (h : SimV P base ρ0 m s) : SimN P base ρ0 (nval m) (do pure (.value (← s))) := by
  intro st n st' hm ρ w hg hr hf
  obtain ⟨v, s1, h1, h2⟩ := bnd_ok hm
  obtain ⟨rfl, rfl⟩ := ret_ok h2
  obtain ⟨b, w', ρ', e1, q, o⟩ := h st v s1 h1 ρ w hg hr hf
  exact ⟨.value b, w', ρ', by rw [Sem.run_bind, e1]; rfl, ⟨b, rfl, q⟩, o⟩
theorem sim_nunit {m : M Unit} {s : Sem Unit} (h : SimU P base ρ0 m s) : SimN P base ρ0 (nunit m) (do s; pure .skip) := by
  intro st n st' hm ρ w hg hr hf
  obtain ⟨v, s1, h1, h2⟩ := bnd_ok hm
  obtain ⟨rfl, rfl⟩ := ret_ok h2
  obtain ⟨b, w', ρ', e1, q, o⟩ := h st v s1 h1 ρ w hg hr hf
  exact ⟨.skip, w', ρ', by rw [Sem.run_bind, e1]; rfl, rfl, o⟩

theorem lenV_run {t ty : TypeId} {x v : V} {u : Value} (hx : VRel ρ0 x u) (h : lenV P t x = some v) : ∃ n : Nat, v = .int .i64 (n : Int) ∧ ∀ w, (Builtin.len_ #[t] ty #[u]).run P w = .ok (.int .i64 (n : Int)) w := by
  unfold lenV at h
  cases ho : lenOk P t x with
  | false => rw [ho] at h; cases h
  | true =>
    rw [ho] at h
    simp only [cond_true] at h
    split at h
    · rename_i n hn
      rw [intV_eq] at h
      simp only [Option.some.injEq] at h
      refine ⟨n, h.symm, fun w => ?_⟩
      unfold lenOk at ho
      split at ho
      · rename_i hu
        cases x with
        | str s =>
          simp only [VRel] at hx
          obtain ⟨b, rfl, hb⟩ := hx
          simp only [srcLen, Option.some.injEq] at hn
          have : lLen s = b.size := by rw [lLen_eq, ← hb, List.length_map, Array.length_toList]; rfl
          rw [this] at hn
          subst hn
          simp [Builtin.len_, run_underlying hu, goInt]
        | _ => cases ho
      · rename_i e hu
        cases x with
        | nils => simp only [VRel] at hx; subst hx; simp only [srcLen, Option.some.injEq] at hn; subst hn; simp [Builtin.len_, run_underlying hu, goInt]
        | emp => simp only [VRel] at hx; obtain ⟨a, c, rfl⟩ := hx; simp only [srcLen, Option.some.injEq] at hn; subst hn; simp [Builtin.len_, run_underlying hu, goInt]
        | sl b off len cap => simp only [VRel] at hx; obtain ⟨_, _, _, _, rfl, _⟩ := hx; simp only [srcLen, Option.some.injEq] at hn; subst hn; simp [Builtin.len_, run_underlying hu, goInt]
        | _ => cases ho
      · cases ho
    · cases h
theorem capV_run {t ty : TypeId} {x v : V} {u : Value} (hx : VRel ρ0 x u) (h : capV P t x = some v) : ∃ n : Nat, v = .int .i64 (n : Int) ∧ ∀ w, (Builtin.cap_ #[t] ty #[u]).run P w = .ok (.int .i64 (n : Int)) w := by
  unfold capV at h
  split at h
  · cases h
  · rename_i e he
    have hu := elemT_und he
    split at h
    · simp only [Option.some.injEq] at h
      simp only [VRel] at hx; subst hx
      exact ⟨0, h.symm, fun w => by simp [Builtin.cap_, run_underlying hu, goInt]⟩
    · split at h
      · rename_i c
        rw [intV_eq] at h
        simp only [Option.some.injEq] at h
        simp only [VRel] at hx
        obtain ⟨_, _, k, _, rfl, hk⟩ := hx
        have hk' : k = c := hk
        subst hk'
        exact ⟨k, h.symm, fun w => by simp [Builtin.cap_, run_underlying hu, goInt]⟩
      · cases h
    · cases h

theorem sim_clearB {t ty : TypeId} {x : V} {u : Value} (hx : VRel ρ0 x u) : SimV P base ρ0 (clearB P t x) (Builtin.clear_ #[t] ty #[u]) := by
  unfold clearB
  refine sim_cond (fun hu => ?_) fun _ => sim_no
  obtain ⟨d, hd⟩ := hasU_ok hu
  have ht : ∀ ρ, VRel ρ (.tup []) (.tuple #[]) := fun ρ => by simp only [VRel]; exact ⟨[], rfl, VsRel.nil⟩
  unfold clear1
  split
  · simp only [VRel] at hx
    subst hx
    refine sim_pure (b := .tuple #[]) (fun w => ?_) fun ρ _ => ht ρ
    simp only [Builtin.clear_, run_underlying hd, Sem.run_bind, Result.andThen_ok, List.getElem?_toArray, List.getElem?_cons_zero]
    cases d <;> rfl
  · rename_i b off len cap
    simp only [VRel] at hx
    obtain ⟨blk, tot, c, hρ, rfl, _⟩ := hx
    refine sim_cond (fun h0 => ?_) fun h0 => ?_
    · have := Nat.eq_of_beq_eq_true h0
      subst this
      refine sim_pure (b := .tuple #[]) (fun w => ?_) fun ρ _ => ht ρ
      simp only [Builtin.clear_, run_underlying hd, Sem.run_bind, Result.andThen_ok, List.getElem?_toArray, List.getElem?_cons_zero]
      cases d <;> rfl
    · refine sim_opt fun e he => sim_opt fun z hz => ?_
      obtain ⟨zu, hzu, hzr⟩ := zeroV_run hz
      have hrep := rep_rel (hzr ρ0).cells len
      cases len with
      | zero => cases h0
      | succ len =>
        refine sim_run (s' := storeCells ⟨blk, off, none⟩ (madeCells zu.cells ((len + 1) * zu.cells.size)).toList >>= fun _ => pure (.tuple #[])) (fun w => ?_) ?_
        · simp [Builtin.clear_, run_underlying (elemT_und he), hzu, Builtin.zeroCells, madeCells]
        · exact sim_bnd good_storeCellsB (fun _ => good_ret _) (sim_storeCells hρ hrep) fun ρ1 _ _ _ _ => sim_ret fun ρ _ => ht ρ
  · exact sim_no

theorem sim_copyB {t t2 ty : TypeId} {d x : V} {ud ux : Value} (hd : VRel ρ0 d ud) (hx : VRel ρ0 x ux) : SimV P base ρ0 (copyB P t d x) (Builtin.copy_ #[t, t2] ty #[ud, ux]) := by
  unfold copyB
  refine sim_opt fun e he => sim_opt fun sz hsz => sim_opt fun n hn => ?_
  split
  · rename_i b off len cap
    split
    · rename_i b2 off2 n2 cap2
      simp only [force_eq, minN_eq]
      simp only [srcLen, Option.some.injEq] at hn
      subst hn
      simp only [VRel] at hd hx
      obtain ⟨blk, tot, c, hρ, rfl, _⟩ := hd
      obtain ⟨blk2, tot2, c2, hρ2, rfl, _⟩ := hx
      refine sim_run (s' := loadCells ⟨blk2, off2, none⟩ (min n2 len * sz) >>= fun cs => storeCells ⟨blk, off, none⟩ cs.toList >>= fun _ => pure (.int .i64 ((min n2 len : Nat) : Int))) (fun w => ?_) ?_
      · simp only [Builtin.copy_, List.getElem?_toArray, List.getElem?_cons_zero, List.getElem?_cons_succ, Sem.run_bind, run_underlying (elemT_und he), Result.andThen_ok, Builtin.lenOf, Sem.run_pure, szOf_run hsz, Builtin.firstCells, goInt]
      · refine sim_bnd good_loadCellsB (fun _ => good_bnd good_storeCellsB fun _ => good_ret _) (sim_loadCells hρ2) ?_
        rintro ρ1 cs vs hg ⟨h1, h2⟩
        exact sim_bnd good_storeCellsB (fun _ => good_ret _) (sim_storeCells (hg _ _ hρ) h1) fun ρ2 _ _ _ _ => sim_ret fun ρ _ => by simp only [VRel]; rfl
    · exact sim_no
  · exact sim_no

theorem sim_mmV {mx : Bool} {ts : Array TypeId} {ty : TypeId} {x y v : V} {ux uy : Value} (hx : VRel ρ0 x ux) (hy : VRel ρ0 y uy) (h : mmV mx x y = some v) :
    ∃ r, (∀ w, ((if mx then Builtin.max_ ts ty #[ux, uy] else Builtin.min_ ts ty #[ux, uy]) : Sem Value).run P w = .ok r w) ∧ ∀ ρ, VRel ρ v r := by
  unfold mmV at h
  split at h
  · rename_i k p
    split at h
    · rename_i k' q
      simp only [VRel] at hx hy
      subst hx
      subst hy
      cases hk : kBeq k k' with
      | false => rw [hk] at h; cases h
      | true =>
        rw [hk] at h
        simp only [cond_true, Option.some.injEq] at h
        subst h
        cases mx with
        | true =>
          refine ⟨_, fun w => by simp only [if_true]; exact run_max_int2 w ts ty k k' p q, fun ρ => ?_⟩
          simp only [VRel, cond_true, ltInt_eq]
          by_cases hlt : p < q
          · simp [hlt]
          · simp [hlt]
        | false =>
          refine ⟨_, fun w => by simp only [Bool.false_eq_true, if_false]; exact run_min_int2 w ts ty k k' p q, fun ρ => ?_⟩
          simp only [VRel, cond_false, ltInt_eq]
          by_cases hlt : q < p
          · simp [hlt]
          · simp [hlt]
    · cases h
  · cases h

theorem sim_builtinB {b : Builtin} {ts : List TypeId} {args : List V} {l : List Value} {ty : TypeId} {consts : Array Bool} (hv : VsRel ρ0 args l) :
    SimN P base ρ0 (nval (builtinB P b ts args)) (builtin b ⟨ts⟩ ty consts ⟨l⟩) := by
  have hno : ∀ {e : Nat} {s : Sem Next}, SimN P base ρ0 (nval (no e)) s := fun {e s} st n st' hm => by
    obtain ⟨v, s1, h1, h2⟩ := bnd_ok hm
    exact (no_ok h1).elim
  unfold builtinB
  split
  · split
    · split
      · obtain ⟨u, rfl, hu⟩ := vs1 hv
        refine sim_nval (sim_optr fun v hh => ?_)
        obtain ⟨n, rfl, hrun⟩ := lenV_run (ty := ty) hu hh
        exact sim_pure (b := .int .i64 (n : Int)) hrun fun ρ _ => by simp only [VRel]
      · exact hno
    · exact hno
  · split
    · split
      · obtain ⟨u, rfl, hu⟩ := vs1 hv
        refine sim_nval (sim_optr fun v hh => ?_)
        obtain ⟨n, rfl, hrun⟩ := capV_run (ty := ty) hu hh
        exact sim_pure (b := .int .i64 (n : Int)) hrun fun ρ _ => by simp only [VRel]
      · exact hno
    · exact hno
  · split
    · split
      · obtain ⟨u, v, rfl, hu, hv⟩ := vs2 hv
        exact sim_nval (sim_appendB hu hv)
      · exact hno
    · exact hno
  · split
    · split
      · obtain ⟨u, v, rfl, hu, hv⟩ := vs2 hv
        exact sim_nval (sim_copyB hu hv)
      · exact hno
    · exact hno
  · split
    · obtain ⟨u, v, rfl, hu, hv⟩ := vs2 hv
      refine sim_nval (sim_optr fun r hh => ?_)
      obtain ⟨z, hrun, hz⟩ := sim_mmV (P := P) (ts := ⟨ts⟩) (ty := ty) hu hv hh
      exact sim_pure (b := z) (fun w => by have := hrun w; simpa using this) fun ρ _ => hz ρ
    · exact hno
  · split
    · obtain ⟨u, v, rfl, hu, hv⟩ := vs2 hv
      refine sim_nval (sim_optr fun r hh => ?_)
      obtain ⟨z, hrun, hz⟩ := sim_mmV (P := P) (ts := ⟨ts⟩) (ty := ty) hu hv hh
      exact sim_pure (b := z) (fun w => by have := hrun w; simpa using this) fun ρ _ => hz ρ
    · exact hno
  · split
    · split
      · obtain ⟨u, rfl, hu⟩ := vs1 hv
        exact sim_nval (sim_clearB hu)
      · exact hno
    · exact hno
  · exact hno
end Go.Ev
