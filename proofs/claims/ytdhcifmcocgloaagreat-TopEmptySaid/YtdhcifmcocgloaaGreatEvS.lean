/- Operations side by side (10): functions without a body, the calls of them. -/
import Derived.Test.YtdhcifmcocgloaaGreatEvR
import Derived.Laws.LoneSync
set_option linter.unusedSimpArgs false
set_option linter.unusedVariables false
namespace Go.Ev
open Go.RowKit (Below)
variable {P : Program} {base : Nat} {ρ0 ρ : Rho} {a : A} {act : Act}

theorem load1_ok {x off blk sz : Nat} {l : List V} {st st' : S} {w : World} (hm : loadCellsB x off 1 st = .ok l st') (hr : Rel ρ base st.h w) (hρ : ρ x = some (blk, sz)) :
    st'.h = st.h ∧ st'.n = st.n ∧ ∃ u v, l = [u] ∧ VRel ρ u v ∧ w.cell? ⟨blk, off, none⟩ = some v := by
  obtain ⟨t, n, cs, ro, hx, hle, rfl, hh, hn⟩ := loadCellsB_ok hm
  obtain ⟨vs, hl, hv, hcell⟩ := cells_read (hr.blk x _ hx) hρ hle
  match vs, hl, hv with
  | [v], _, hv =>
    have hc := hcell 0 v (by simp)
    rw [Addr.add_zero'] at hc
    have hlen := hv.length
    generalize lTake 1 (lDrop off cs) = q at *
    match q, hv with
    | [u], hv =>
      simp only [VsRel] at hv
      obtain ⟨v', r, e, hv, _⟩ := hv
      simp at e
      exact ⟨hh, hn, u, v, rfl, by rw [e.1]; exact hv, hc⟩
    | [], hv => simp at hlen
    | _ :: _ :: _, hv => simp at hlen

theorem store1_ok (P : Program) {x off blk sz : Nat} {v : V} {u : Value} {r : Unit} {st st' : S} {w : World} (hm : storeCellsB x off [v] st = .ok r st') (hr : Rel ρ base st.h w) (hρ : ρ x = some (blk, sz)) (hv : VRel ρ v u)
    (hf : ∀ x, st.n ≤ x → x < st'.n → ρ x = none) :
    w.frozen? ⟨blk, off, none⟩ = false ∧ (∃ z, w.cell? ⟨blk, off, none⟩ = some z) ∧ u.oneCell' = true ∧ ∃ ρ', Out ρ base st.n st'.n st'.h w ρ' (w.setCell ⟨blk, off, none⟩ u) := by
  obtain ⟨_, w', ρ', e1, _, o⟩ := sim_storeCells (P := P) (base := base) hρ (VsRel.cons hv VsRel.nil) st r st' hm ρ w (Grow.refl _) hr hf
  obtain ⟨b, s1, h1, h2⟩ := bnd_ok hm
  obtain ⟨hx, hh, hn⟩ := getB_ok h1
  cases b with
  | map es => exact (no_ok (show (no 15 : M Unit) s1 = .ok r st' from h2)).elim
  | dead => exact (no_ok (show (no 15 : M Unit) s1 = .ok r st' from h2)).elim
  | cells t n cs ro =>
    have h2' : (putCells x off [v] (.cells t n cs ro)) s1 = .ok r st' := h2
    unfold putCells at h2'
    simp only at h2'
    cases ro with
    | true => simp only [cond_true] at h2'; exact (no_ok h2').elim
    | false =>
      simp only [cond_false] at h2'
      cases hc : Nat.ble (Nat.add off (lLen [v])) n with
      | false => rw [hc] at h2'; simp only [cond_false] at h2'; exact (no_ok h2').elim
      | true =>
        rw [hc] at h2'
        simp only [cond_true] at h2'
        cases ha : lAll V.oneC [v] with
        | false => rw [ha] at h2'; simp only [cond_false] at h2'; exact (no_ok h2').elim
        | true =>
          have hle : off + 1 ≤ n := by have := Nat.le_of_ble_eq_true hc; rw [lLen_eq] at this; exact this
          rw [lAll_eq] at ha
          have hone : v.oneC = true := by simpa using ha
          obtain ⟨k1, blk', sz', arr, fz, k2, k3, k4, k5, k6, k7⟩ := hr.blk x _ hx
          rw [hρ] at k2
          cases k2
          obtain ⟨rfl, kb⟩ := k7 rfl
          have hz : w.frozen? ⟨blk, off, none⟩ = false := by simp [World.frozen?, k3]
          have hlt : off < arr.size := by omega
          have hcell : w.cell? ⟨blk, off, none⟩ = some arr[off] := by rw [cell_at k3]; exact Array.getElem?_eq_getElem hlt
          have ho := hv.oneC hone
          have hst : (store ⟨blk, off, none⟩ u).run P w = .ok () (w.setCell ⟨blk, off, none⟩ u) := by
            rw [run_store P w _ u _ ho, hcell]
            simp [hz]
          have hw : w' = w.setCell ⟨blk, off, none⟩ u := by
            have e2 : (storeCells ⟨blk, off, none⟩ [u]).run P w = .ok () (w.setCell ⟨blk, off, none⟩ u) := by
              simp only [storeCells, Addr.add_zero', Sem.run_bind, hst, Result.andThen_ok, Sem.run_pure]
            rw [e2] at e1
            injection e1 with _ h
            exact h.symm
          subst hw
          exact ⟨hz, ⟨_, hcell⟩, ho, ρ', o⟩

theorem cmpNats_at : ∀ (x y : List UInt8) (i : Nat), (∀ j, j < i → x[j]? = y[j]?) → (hx : i < x.length) → (hy : i < y.length) → x[i] ≠ y[i] → cmpNats (x.map (·.toNat)) (y.map (·.toNat)) = if x[i] < y[i] then -1 else 1
  | [], _, i, _, hx, _, _ => by simp at hx
  | _ :: _, [], i, _, _, hy, _ => by simp at hy
  | a :: x, b :: y, 0, _, _, _, hne => by
    simp only [List.getElem_cons_zero] at hne ⊢
    have hab : ¬ a.toNat = b.toNat := fun h => hne (UInt8.toNat_inj.1 h)
    simp only [List.map_cons, cmpNats]
    have h1 : Nat.beq a.toNat b.toNat = false := by
      cases h : Nat.beq a.toNat b.toNat with
      | false => rfl
      | true => exact (hab (Nat.eq_of_beq_eq_true h)).elim
    rw [h1]
    simp only [cond_false]
    by_cases hlt : a < b
    · rw [if_pos hlt]
      have : Nat.blt a.toNat b.toNat = true := by rw [Nat.blt_eq]; exact hlt
      rw [this]; rfl
    · rw [if_neg hlt]
      have : Nat.blt a.toNat b.toNat = false := by
        cases h : Nat.blt a.toNat b.toNat with
        | false => rfl
        | true => rw [Nat.blt_eq] at h; exact (hlt h).elim
      rw [this]; rfl
  | a :: x, b :: y, i + 1, hj, hx, hy, hne => by
    have h0 := hj 0 (by omega)
    simp at h0
    subst h0
    simp only [List.map_cons, cmpNats, List.getElem_cons_succ]
    have h1 : Nat.beq a.toNat a.toNat = true := Nat.beq_refl _
    rw [h1]
    simp only [cond_true]
    exact cmpNats_at x y i (fun j h => by have := hj (j + 1) (by omega); simpa using this) (by simpa using hx) (by simpa using hy) (by simpa using hne)
theorem cmpNats_eq : ∀ (x y : List UInt8), (∀ j, j < min x.length y.length → x[j]? = y[j]?) → cmpNats (x.map (·.toNat)) (y.map (·.toNat)) = if x.length < y.length then -1 else if x.length > y.length then 1 else 0
  | [], [], _ => rfl
  | [], _ :: _, _ => by simp [cmpNats]
  | _ :: _, [], _ => by simp [cmpNats]
  | a :: x, b :: y, h => by
    have h0 := h 0 (by simp)
    simp at h0
    subst h0
    simp only [List.map_cons, cmpNats]
    have h1 : Nat.beq a.toNat a.toNat = true := Nat.beq_refl _
    rw [h1]
    simp only [cond_true]
    rw [cmpNats_eq x y (fun j hj => by have := h (j + 1) (by simp; omega); simpa using this)]
    simp

theorem cmp_eq (a b : ByteArray) : Extern.BytealgCompare.cmp a b = cmpNats (a.data.toList.map (·.toNat)) (b.data.toList.map (·.toNat)) := by
  have ga : ∀ i, i < a.size → a.data.toList[i]? = some a[i]! := by
    intro i hi
    rw [getElem!_pos a i hi]
    have hd : i < a.data.size := hi
    have : a[i] = a.data[i] := rfl
    rw [this, Array.getElem?_toList, Array.getElem?_eq_getElem hd]
  have gb : ∀ i, i < b.size → b.data.toList[i]? = some b[i]! := by
    intro i hi
    rw [getElem!_pos b i hi]
    have hd : i < b.data.size := hi
    have : b[i] = b.data[i] := rfl
    rw [this, Array.getElem?_toList, Array.getElem?_eq_getElem hd]
  have la : a.data.toList.length = a.size := Array.length_toList
  have lb : b.data.toList.length = b.size := Array.length_toList
  unfold Extern.BytealgCompare.cmp
  split
  · rename_i i hf
    have h1 := List.find?_some hf
    have h2 := List.mem_of_find?_eq_some hf
    have hi : i < min a.size b.size := by simpa using h2
    have hall : ∀ j, j < i → a.data.toList[j]? = b.data.toList[j]? := by
      intro j hj
      have h3 := List.find?_range_eq_some.1 hf
      have h4 := h3.2.2 j hj
      have h5 : a[j]! = b[j]! := by simpa using h4
      rw [ga j (by omega), gb j (by omega), h5]
    have hia : i < a.data.toList.length := by omega
    have hib : i < b.data.toList.length := by omega
    have ea : a.data.toList[i] = a[i]! := by have := ga i (by omega); rw [List.getElem?_eq_getElem hia] at this; exact Option.some.inj this
    have eb : b.data.toList[i] = b[i]! := by have := gb i (by omega); rw [List.getElem?_eq_getElem hib] at this; exact Option.some.inj this
    rw [cmpNats_at _ _ i hall hia hib (by rw [ea, eb]; simpa using h1), ea, eb]
  · rename_i hf
    rw [cmpNats_eq _ _ (fun j hj => by
      have h3 := List.find?_range_eq_none.1 hf j (by omega)
      have h5 : a[j]! = b[j]! := by simpa using h3
      rw [ga j (by omega), gb j (by omega), h5]), la, lb]

theorem rw_ok {x off blk sz : Nat} {b : B} {r : Unit} {st st' : S} {w : World} (hm : rwOk b st = .ok r st') (hx : st.h.get x = some b) (hr : Rel ρ base st.h w) (hρ : ρ x = some (blk, sz)) :
    st' = st ∧ w.frozen? ⟨blk, off, none⟩ = false := by
  cases b with
  | cells t n cs ro =>
    cases ro with
    | true => exact (no_ok (show (no 202 : M Unit) st = .ok r st' from hm)).elim
    | false =>
      obtain ⟨_, rfl⟩ := ret_ok (show (ret () : M Unit) st = .ok r st' from hm)
      obtain ⟨k1, blk', sz', arr, fz, k2, k3, k4, k5, k6, k7⟩ := hr.blk x _ hx
      rw [hρ] at k2
      cases k2
      obtain ⟨rfl, kb⟩ := k7 rfl
      exact ⟨rfl, by simp [World.frozen?, k3]⟩
  | map es => exact (no_ok (show (no 203 : M Unit) st = .ok r st' from hm)).elim
  | dead => exact (no_ok (show (no 203 : M Unit) st = .ok r st' from hm)).elim

theorem sim_extB {e : Ext} {E : Array Value → Sem Value} (hE : EntryOk e E) {args : List V} {l : List Value} (hv : VsRel ρ0 args l) : SimV P base ρ0 (extB e args) (E ⟨l⟩) := by
  have ht : ∀ ρ, VRel ρ (.tup []) (.tuple #[]) := fun ρ => by simp only [VRel]; exact ⟨[], rfl, VsRel.nil⟩
  cases e with
  | load k =>
    simp only [EntryOk] at hE
    subst hE
    simp only [extB]
    split
    · rename_i b off
      obtain ⟨u, rfl, hu⟩ := vs1 hv
      simp only [VRel] at hu
      obtain ⟨blk, sz, hρ, rfl⟩ := hu
      intro st v st' hm ρ w hg hr hf
      obtain ⟨l, s1, h1, h2⟩ := bnd_ok hm
      obtain ⟨hh, hn, u, c, rfl, hu, hc⟩ := load1_ok h1 hr (hg _ _ hρ)
      cases u with
      | int k' n =>
        simp only [atLoad] at h2
        cases hk : kBeq k k' with
        | false => rw [hk] at h2; simp only [cond_false] at h2; exact (no_ok h2).elim
        | true =>
          rw [hk] at h2
          simp only [cond_true] at h2
          have := kBeq_eq.1 hk
          subst this
          obtain ⟨rfl, rfl⟩ := ret_ok h2
          simp only [VRel] at hu
          subst hu
          refine ⟨.int k n, w, ρ, ?_, by simp only [VRel], by rw [hh, hn]; exact Out.refl hr⟩
          show (Sem.run P (do Extern.Atomic.read (.int k) (← asAddr (.pointer (some ⟨blk, off, none⟩)))) w) = _
          simp [asAddr, Extern.Atomic.read, hc]
      | _ => cases h2
    · exact sim_no
  | loadp =>
    simp only [EntryOk] at hE
    subst hE
    simp only [extB]
    split
    · rename_i b off
      obtain ⟨u, rfl, hu⟩ := vs1 hv
      simp only [VRel] at hu
      obtain ⟨blk, sz, hρ, rfl⟩ := hu
      intro st v st' hm ρ w hg hr hf
      obtain ⟨l, s1, h1, h2⟩ := bnd_ok hm
      obtain ⟨hh, hn, u, c, rfl, hu, hc⟩ := load1_ok h1 hr (hg _ _ hρ)
      cases u with
      | nilp =>
        obtain ⟨rfl, rfl⟩ := ret_ok (show (ret .nilp : M V) s1 = .ok v st' from h2)
        have hu' := hu
        simp only [VRel] at hu
        subst hu
        refine ⟨.pointer none, w, ρ, ?_, hu', by rw [hh, hn]; exact Out.refl hr⟩
        show (Sem.run P (do Extern.Atomic.read .ptr (← asAddr (.pointer (some ⟨blk, off, none⟩)))) w) = _
        simp [asAddr, Extern.Atomic.read, hc]
      | ptr y o =>
        obtain ⟨rfl, rfl⟩ := ret_ok (show (ret (.ptr y o) : M V) s1 = .ok v st' from h2)
        have hu' := hu
        simp only [VRel] at hu
        obtain ⟨_, _, _, rfl⟩ := hu
        refine ⟨_, w, ρ, ?_, hu', by rw [hh, hn]; exact Out.refl hr⟩
        show (Sem.run P (do Extern.Atomic.read .ptr (← asAddr (.pointer (some ⟨blk, off, none⟩)))) w) = _
        simp [asAddr, Extern.Atomic.read, hc]
      | _ => cases h2
    · exact sim_no
  | store =>
    simp only [EntryOk] at hE
    subst hE
    simp only [extB]
    split
    · rename_i b off y
      obtain ⟨u, uy, rfl, hu, hy⟩ := vs2 hv
      simp only [VRel] at hu
      obtain ⟨blk, sz, hρ, rfl⟩ := hu
      intro st v st' hm ρ w hg hr hf
      obtain ⟨r, s1, h1, h2⟩ := bnd_ok hm
      obtain ⟨rfl, rfl⟩ := ret_ok h2
      obtain ⟨hz, ⟨z, hc⟩, ho, ρ', o⟩ := store1_ok P h1 hr (hg _ _ hρ) (hy.mono hg) hf
      refine ⟨.tuple #[], _, ρ', ?_, ht _, o⟩
      show (Sem.run P (do
        store (← asAddr (.pointer (some ⟨blk, off, none⟩))) uy .atomic
        pure Extern.Atomic.none_) w) = _
      simp [asAddr, run_store P w _ uy .atomic ho, hc, hz, Extern.Atomic.none_]
    · exact sim_no
  | cas k =>
    simp only [EntryOk] at hE
    subst hE
    simp only [extB]
    split
    · rename_i b off k2 old k3 nw
      obtain ⟨u, uo, un, rfl, hu, ho, hn⟩ := vs3 hv
      simp only [VRel] at hu ho
      obtain ⟨blk, sz, hρ, rfl⟩ := hu
      subst ho
      refine sim_cond (fun hk => ?_) fun _ => sim_no
      rw [Bool.and_eq_true] at hk
      have e1 := kBeq_eq.1 hk.1
      have e2 := kBeq_eq.1 hk.2
      subst e1
      subst e2
      intro st0 v st' hm0 ρ w hg hr0 hf0
      obtain ⟨bb, st, g1, g2⟩ := bnd_ok hm0
      obtain ⟨gx, gh, gn⟩ := getB_ok g1
      have hr : Rel ρ base st.h w := by rw [gh]; exact hr0
      obtain ⟨rr, stt, g3, hm⟩ := bnd_ok g2
      obtain ⟨rfl, hz0⟩ := rw_ok (off := off) g3 (by rw [gh]; exact gx) hr (hg _ _ hρ)
      have hf : ∀ x, stt.n ≤ x → x < st'.n → ρ x = none := fun y hy hy' => hf0 y (by omega) hy'
      rw [← gn]
      obtain ⟨l, s1, h1, h2⟩ := bnd_ok hm
      obtain ⟨hh, hnn, u, c, rfl, hu, hc⟩ := load1_ok h1 hr (hg _ _ hρ)
      cases u with
      | int k' n =>
        simp only [atCas] at h2
        cases hk : kBeq k k' with
        | false => rw [hk] at h2; simp only [cond_false] at h2; exact (no_ok h2).elim
        | true =>
          rw [hk] at h2
          simp only [cond_true] at h2
          have := kBeq_eq.1 hk
          subst this
          simp only [VRel] at hu hn
          subst hu
          subst hn
          have hsh := World.shape?_isSome_of_cell? hc
          have hr1 : Rel ρ base s1.h w := by rw [hh]; exact hr
          cases hb : beqInt n old with
          | true =>
            rw [hb] at h2
            simp only [cond_true] at h2
            obtain ⟨r, s2, h3, h4⟩ := bnd_ok h2
            obtain ⟨rfl, rfl⟩ := ret_ok h4
            have hno : n = old := by rw [beqInt_eq] at hb; exact eq_of_beq hb
            subst hno
            obtain ⟨hz, ⟨z, hc2⟩, ho, ρ', o⟩ := store1_ok P (v := .int k nw) (u := .int k nw) h3 hr1 (hg _ _ hρ) (by simp only [VRel]) (fun y hy hy' => hf y (by omega) hy')
            refine ⟨.bool true, _, ρ', ?_, by simp only [VRel], by rw [← hnn]; exact o⟩
            show (Sem.run P (do
              let a' ← asAddr (.pointer (some ⟨blk, off, none⟩))
              if ← Extern.Atomic.touchesFrozen a' then unsupported (.unsafePointer "a write to bytes that a string shares")
              let eq ← match Extern.Atomic.T.int k, ← Extern.Atomic.read (.int k) a', Value.int k n with
                | _, .int _ x, .int _ y => pure (x == y)
                | .ptr, .pointer x, .pointer y => samePointer x y
                | .int _, .pointer (some _), .int _ 0 | .int _, .int _ 0, .pointer (some _) => pure false
                | .int _, .pointer (some _), _ | .int _, _, .pointer (some _) => unsupported .addressObserved
                | _, _, _ => stuck "atomic.CompareAndSwap: old is no T"
              if eq then store a' (.int k nw) .atomic
              pure (Value.bool eq)) w) = _
            simp [Extern.Atomic.touchesFrozen, Extern.Atomic.read, asAddr, viewAt, hsh, hc, hz, run_store P w _ (.int k nw) .atomic rfl, Result.andThen]
          | false =>
            rw [hb] at h2
            simp only [cond_false] at h2
            obtain ⟨rfl, rfl⟩ := ret_ok h2
            have hno : ¬ n = old := by rw [beqInt_eq] at hb; exact fun e => by subst e; simp at hb
            have hz := hz0
            refine ⟨.bool false, w, ρ, ?_, by simp only [VRel], by rw [hh, hnn]; exact Out.refl hr⟩
            show (Sem.run P (do
              let a' ← asAddr (.pointer (some ⟨blk, off, none⟩))
              if ← Extern.Atomic.touchesFrozen a' then unsupported (.unsafePointer "a write to bytes that a string shares")
              let eq ← match Extern.Atomic.T.int k, ← Extern.Atomic.read (.int k) a', Value.int k old with
                | _, .int _ x, .int _ y => pure (x == y)
                | .ptr, .pointer x, .pointer y => samePointer x y
                | .int _, .pointer (some _), .int _ 0 | .int _, .int _ 0, .pointer (some _) => pure false
                | .int _, .pointer (some _), _ | .int _, _, .pointer (some _) => unsupported .addressObserved
                | _, _, _ => stuck "atomic.CompareAndSwap: old is no T"
              if eq then store a' (.int k nw) .atomic
              pure (Value.bool eq)) w) = _
            simp [Extern.Atomic.touchesFrozen, Extern.Atomic.read, asAddr, viewAt, hsh, hc, hz, hno, Result.andThen]
      | _ => cases h2
    · exact sim_no
  | add k =>
    simp only [EntryOk] at hE
    subst hE
    simp only [extB]
    split
    · rename_i b off k2 y
      obtain ⟨u, uy, rfl, hu, hy⟩ := vs2 hv
      simp only [VRel] at hu hy
      obtain ⟨blk, sz, hρ, rfl⟩ := hu
      subst hy
      refine sim_cond (fun hk => ?_) fun _ => sim_no
      have e1 := kBeq_eq.1 hk
      subst e1
      intro st v st' hm ρ w hg hr hf
      obtain ⟨l, s1, h1, h2⟩ := bnd_ok hm
      obtain ⟨hh, hnn, u, c, rfl, hu, hc⟩ := load1_ok h1 hr (hg _ _ hρ)
      cases u with
      | int k' n =>
        simp only [atAdd] at h2
        cases hk : kBeq k k' with
        | false => rw [hk] at h2; simp only [cond_false] at h2; exact (no_ok h2).elim
        | true =>
          rw [hk] at h2
          simp only [cond_true] at h2
          have := kBeq_eq.1 hk
          subst this
          simp only [VRel] at hu
          subst hu
          obtain ⟨q, s2, h3, h4⟩ := bnd_ok h2
          obtain ⟨hq, rfl⟩ := opt_ok h3
          rw [intV_eq, wrapI_eq, addI_eq] at hq
          simp only [Option.some.injEq] at hq
          subst hq
          obtain ⟨r, s3, h5, h6⟩ := bnd_ok h4
          obtain ⟨rfl, rfl⟩ := ret_ok h6
          have hr1 : Rel ρ base s1.h w := by rw [hh]; exact hr
          obtain ⟨hz, ⟨z, hc2⟩, ho, ρ', o⟩ := store1_ok P (v := .int k (k.wrap (n + y))) (u := .int k (k.wrap (n + y))) h5 hr1 (hg _ _ hρ) (by simp only [VRel]) (fun y hy hy' => hf y (by omega) hy')
          refine ⟨.int k (k.wrap (n + y)), _, ρ', ?_, by simp only [VRel], by rw [← hnn]; exact o⟩
          show (Sem.run P (do
            let a' ← asAddr (.pointer (some ⟨blk, off, none⟩))
            let old ← Extern.Atomic.read (.int k) a'
            let new ← Op.intArith .add k (← asInt old) (← asInt (.int k y))
            store a' new .atomic
            pure (if true = true then new else old)) w) = _
          simp [Extern.Atomic.read, asAddr, asInt, asIntOf, hc, hz, Op.intArith, run_store P w _ (.int k (k.wrap (n + y))) .atomic rfl, Result.andThen]
      | _ => cases h2
    · exact sim_no
  | mark =>
    obtain ⟨m, rfl⟩ := hE
    simp only [extB]
    split
    · obtain ⟨u, rfl, hu⟩ := vs1 hv
      simp only [VRel] at hu
      obtain ⟨blk, sz, hρ, rfl⟩ := hu
      exact sim_pure (b := .tuple #[]) (fun w => rfl) fun ρ _ => ht ρ
    · exact sim_no
  | mark0 =>
    obtain ⟨m, rfl⟩ := hE
    simp only [extB]
    split
    · exact sim_pure (b := .tuple #[]) (fun w => rfl) fun ρ _ => ht ρ
    · exact sim_no
  | cmp =>
    simp only [EntryOk] at hE
    subst hE
    simp only [extB]
    split
    · obtain ⟨u, uy, rfl, hu, hy⟩ := vs2 hv
      simp only [VRel] at hu hy
      obtain ⟨b1, rfl, h1⟩ := hu
      obtain ⟨b2, rfl, h2⟩ := hy
      refine sim_pure (b := .int .i64 (cmpNats (b1.data.toList.map (·.toNat)) (b2.data.toList.map (·.toNat)))) (fun w => ?_) fun ρ _ => by simp only [VRel, h1, h2]
      rw [← cmp_eq]
      rfl
    · exact sim_no

/-- no function of the program bears the name of the one that counts goroutines -/
def NoCount (P : Program) : Prop := ∀ (f : Nat) (fn : Func), P.funcs[f]? = some fn → (fn.name == "runtime.NumGoroutine") = false

theorem sim_callNx (hN : NoCount P) {f : FuncId} {args : List V} {l : List Value} (hv : VsRel ρ0 args l) : SimN P base ρ0 (callNx P (f, args)) (callFunc f ⟨l⟩) := by
  unfold callNx
  simp only
  split
  · exact sim_no
  · rename_i fn hf
    split
    · rename_i body hb
      intro st n st' hm ρ w hg hr _
      obtain ⟨rfl, rfl⟩ := ret_ok hm
      refine ⟨.enter f ⟨l⟩, w, ρ, ?_, ⟨l, rfl, hv.mono hg⟩, Out.refl hr⟩
      have hnm := hN f fn hf
      simp only [callFunc, Sem.run_bind, run_program, Result.andThen_ok, hf, hnm, Bool.false_eq_true, if_false, hb, Option.isNone_some]
      rfl
    · rename_i hb
      refine sim_cond (fun ho => ?_) fun _ => sim_no
      have ho' := eq_of_beq ho
      split
      · rename_i e he
        obtain ⟨h1, h2, E, h3, h4⟩ := extOf_ok ho' he
        refine sim_run (s' := do pure (.value (← E ⟨l⟩))) (fun w => ?_) (sim_nval (sim_extB h4 hv))
        rw [run_callFunc_extern hf h1 (by rw [hb]; rfl) h2 h3, Sem.run_bind]
        cases (E ⟨l⟩).run P w <;> rfl
      · exact sim_no
end Go.Ev
