/- Memory: a new block, cells read, cells written. -/
import Derived.Test.YtdhcifmcocgloaaGreatEvE
set_option linter.unusedSimpArgs false
set_option linter.unusedVariables false
namespace Go.Ev
open Go.RowKit (Below)
variable {P : Program} {base : Nat} {ρ ρ' ρ0 : Rho} {h : Tr B} {w w' : World}

theorem BRel.mono {x : Nat} {b : B} (hb : BRel ρ base w x b) (he : Grow ρ ρ') (hw : b.live = true → ∀ blk sz, ρ x = some (blk, sz) → w'.heap[blk]? = w.heap[blk]?) : BRel ρ' base w' x b := by
  cases b with
  | dead => exact trivial
  | cells t n cs ro =>
    obtain ⟨h1, blk, sz, arr, fz, h2, h3, h4, h5, h6, h7⟩ := hb
    exact ⟨h1, blk, sz, arr, fz, he _ _ h2, (hw rfl blk sz h2).trans h3, h4, h5, h6.mono he, h7⟩
  | map es =>
    obtain ⟨blk, sz, arr, clock, h2, h3, h4, h5⟩ := hb
    exact ⟨blk, sz, arr, clock, he _ _ h2, (hw rfl blk sz h2).trans h3, h4.mono he, h5⟩

theorem Rel.of_heap (hr : Rel ρ base h w) (e : w'.heap = w.heap) : Rel ρ base h w' :=
  ⟨fun x b hx => (hr.blk x b hx).mono (Grow.refl _) (fun _ _ _ _ => by rw [e]), hr.inj, fun x p s hx => by rw [e]; exact hr.lt x p s hx, by rw [e]; exact hr.base⟩

/-- ρ with a new name -/
def putR (ρ : Rho) (n : Nat) (p : Nat × Nat) : Rho := fun y => if y = n then some p else ρ y
theorem putR_grow {n : Nat} {p : Nat × Nat} (hn : ρ n = none) : Grow ρ (putR ρ n p) := by
  intro x q hx
  unfold putR
  by_cases e : x = n
  · subst e; rw [hn] at hx; cases hx
  · simp [e, hx]
theorem putR_same {n : Nat} {p : Nat × Nat} : putR ρ n p n = some p := by simp [putR]
theorem putR_ne {n y : Nat} {p : Nat × Nat} (e : y ≠ n) : putR ρ n p y = ρ y := by simp [putR, e]

theorem live_rho {x : Nat} {b : B} (hb : BRel ρ base w x b) (hl : b.live = true) : ∃ p, ρ x = some p := by
  cases b with
  | dead => cases hl
  | cells t n cs ro => obtain ⟨_, blk, sz, _, _, h2, _⟩ := hb; exact ⟨_, h2⟩
  | map es => obtain ⟨blk, sz, _, _, h2, _⟩ := hb; exact ⟨_, h2⟩

/-- a new block of the heap, under a new name -/
theorem rel_push (hr : Rel ρ base h w) {n sz : Nat} {o : Obj} {b : B} (hn : ρ n = none) (hw : w'.heap = w.heap.push o)
    (hb : BRel (putR ρ n (w.heap.size, sz)) base w' n b) : Rel (putR ρ n (w.heap.size, sz)) base (h.set n b) w' := by
  have hg := putR_grow (p := (w.heap.size, sz)) hn
  have old : ∀ k, k < w.heap.size → w'.heap[k]? = w.heap[k]? := fun k hk => by rw [hw, Array.getElem?_push, if_neg (by omega)]
  refine ⟨fun x c hx => ?_, fun x y c d p s q t hx hy hc hd hp hq hpq => ?_, fun x p s hx => ?_, ?_⟩
  · by_cases e : n = x
    · subst e; rw [Tr.get_set_same] at hx; cases hx; exact hb
    · rw [Tr.get_set_ne _ _ e] at hx
      exact (hr.blk x c hx).mono hg fun _ blk sz hx2 => old blk (hr.lt x blk sz hx2)
  · by_cases e : n = x
    · subst e
      rw [putR_same] at hp
      simp only [Option.some.injEq, Prod.mk.injEq] at hp
      by_cases e2 : n = y
      · exact e2
      · rw [putR_ne (Ne.symm e2)] at hq
        have := hr.lt y q t hq
        omega
    · rw [Tr.get_set_ne _ _ e] at hx
      rw [putR_ne (Ne.symm e)] at hp
      by_cases e2 : n = y
      · subst e2
        rw [putR_same] at hq
        simp only [Option.some.injEq, Prod.mk.injEq] at hq
        have := hr.lt x p s hp
        omega
      · rw [Tr.get_set_ne _ _ e2] at hy
        rw [putR_ne (Ne.symm e2)] at hq
        exact hr.inj x y c d p s q t hx hy hc hd hp hq hpq
  · rw [hw, Array.size_push]
    by_cases e : x = n
    · subst e; rw [putR_same] at hx; cases hx; omega
    · rw [putR_ne e] at hx; have := hr.lt x p s hx; omega
  · rw [hw, Array.size_push]; have := hr.base; omega

theorem below_push {o : Obj} (hr : Rel ρ base h w) (hw : w'.heap = w.heap.push o) (h1 : w'.os = w.os) (h2 : w'.tape = w.tape) (h3 : w'.output = w.output) : Below base w w' :=
  ⟨h1, h2, h3, by rw [hw, Array.size_push]; omega, fun k hk => by have := hr.base; rw [hw, Array.getElem?_push, if_neg (by omega)]⟩

theorem out_push (hr : Rel ρ base h w) {n sz : Nat} {o : Obj} {b : B} (hn : ρ n = none) (hw : w'.heap = w.heap.push o) (h1 : w'.os = w.os) (h2 : w'.tape = w.tape) (h3 : w'.output = w.output)
    (hb : BRel (putR ρ n (w.heap.size, sz)) base w' n b) : Out ρ base n (n + 1) (h.set n b) w (putR ρ n (w.heap.size, sz)) w' :=
  ⟨rel_push hr hn hw hb, putR_grow hn, fun x hx hx' => by
    by_cases e : x = n
    · omega
    · rw [putR_ne e] at hx'; exact absurd hx hx', below_push hr hw h1 h2 h3⟩

/-- a block is not to be touched any more -/
theorem rel_dead (hr : Rel ρ base h w) (x : Nat) : Rel ρ base (h.set x .dead) w := by
  refine ⟨fun y c hy => ?_, fun y z c d p s q t hy hz hc hd hp hq hpq => ?_, hr.lt, hr.base⟩
  · by_cases e : x = y
    · subst e; rw [Tr.get_set_same] at hy; cases hy; exact trivial
    · rw [Tr.get_set_ne _ _ e] at hy; exact hr.blk y c hy
  · by_cases e : x = y
    · subst e; rw [Tr.get_set_same] at hy; cases hy; cases hc
    · by_cases e2 : x = z
      · subst e2; rw [Tr.get_set_same] at hz; cases hz; cases hd
      · rw [Tr.get_set_ne _ _ e] at hy; rw [Tr.get_set_ne _ _ e2] at hz
        exact hr.inj y z c d p s q t hy hz hc hd hp hq hpq

/-- a live block is changed, and nothing else -/
theorem rel_mod (hr : Rel ρ base h w) {x blk sz : Nat} {b b' : B} (hx : h.get x = some b) (hl : b.live = true) (hρ : ρ x = some (blk, sz))
    (hsize : w'.heap.size = w.heap.size) (hoth : ∀ k, k ≠ blk → w'.heap[k]? = w.heap[k]?) (hb : BRel ρ base w' x b') : Rel ρ base (h.set x b') w' := by
  refine ⟨fun y c hy => ?_, fun y z c d p s q t hy hz hc hd hp hq hpq => ?_, fun y p s hy => by rw [hsize]; exact hr.lt y p s hy, by rw [hsize]; exact hr.base⟩
  · by_cases e : x = y
    · subst e; rw [Tr.get_set_same] at hy; cases hy; exact hb
    · rw [Tr.get_set_ne _ _ e] at hy
      exact (hr.blk y c hy).mono (Grow.refl _) fun hlc blk' sz' h2 => hoth blk' fun e2 => e (hr.inj x y b c blk _ blk' _ hx hy hl hlc hρ h2 e2.symm)
  · have lift : ∀ y c, (h.set x b').get y = some c → ∃ c', h.get y = some c' ∧ (c.live = true → c'.live = true) := fun y c hy => by
      by_cases e : x = y
      · subst e; rw [Tr.get_set_same] at hy; exact ⟨b, hx, fun _ => hl⟩
      · rw [Tr.get_set_ne _ _ e] at hy; exact ⟨c, hy, id⟩
    obtain ⟨c', hy', hc'⟩ := lift y c hy
    obtain ⟨d', hz', hd'⟩ := lift z d hz
    exact hr.inj y z c' d' p s q t hy' hz' (hc' hc) (hd' hd) hp hq hpq

theorem getB_ok {x : Nat} {b : B} {st st' : S} (hm : getB x st = .ok b st') : st.h.get x = some b ∧ st'.h = st.h ∧ st'.n = st.n := by
  rw [getB_eq] at hm
  cases hx : st.h.get x with
  | none => simp only [hx] at hm; cases hm
  | some c => simp only [hx] at hm; injection hm with h1 h2; subst h1; subst h2; exact ⟨rfl, rfl, rfl⟩
theorem modB_ok {x : Nat} {b : B} {st st' : S} {u : Unit} (hm : modB x b st = .ok u st') : (∃ c, st.h.get x = some c) ∧ st'.h = st.h.set x b ∧ st'.n = st.n := by
  rw [modB_eq] at hm
  cases hx : st.h.get x with
  | none => simp only [hx] at hm; cases hm
  | some c => simp only [hx] at hm; injection hm with h1 h2; subst h2; exact ⟨⟨c, rfl⟩, rfl, rfl⟩
theorem newB_ok {b : B} {st st' : S} {n : Nat} (hm : newB b st = .ok n st') : n = st.n ∧ st'.h = st.h.set st.n b ∧ st'.n = st.n + 1 := by
  rw [newB_eq] at hm; injection hm with h1 h2; subst h1; subst h2; exact ⟨rfl, rfl, rfl⟩

/-! ### cells -/
theorem cell_at {g : Nat} {arr : Array Value} {t : TypeId} {fz : Nat × Nat} (hg : w.heap[g]? = some (.cells arr t fz)) (i : Nat) : w.cell? ⟨g, i, none⟩ = arr[i]? := by
  simp [World.cell?, hg]

theorem cells_read {t : TypeId} {n off k x blk sz : Nat} {cs : List V} {ro : Bool} (hb : BRel ρ base w x (.cells t n cs ro)) (hρ : ρ x = some (blk, sz)) (hk : off + k ≤ n) :
    ∃ l : List Value, l.length = k ∧ VsRel ρ (lTake k (lDrop off cs)) l ∧ (∀ (j : Nat) (v : Value), l[j]? = some v → w.cell? ((⟨blk, off, none⟩ : Addr).add j) = some v) := by
  obtain ⟨h1, blk', sz', arr, fz, h2, h3, h4, h5, h6, h7⟩ := hb
  rw [hρ] at h2
  cases h2
  refine ⟨((arr.toList.take n).drop off).take k, ?_, ?_, fun j v hv => ?_⟩
  · simp; omega
  · rw [lTake_eq, lDrop_eq]; exact (h6.drop off).take k
  · rw [Addr.add_lit, cell_at h3]
    rw [List.getElem?_take] at hv
    split at hv
    · rw [List.getElem?_drop, List.getElem?_take] at hv
      split at hv
      · simpa using hv
      · cases hv
    · cases hv

/-- cells are read -/
theorem sim_loadCells {x off k blk sz : Nat} (hρ : ρ0 x = some (blk, sz)) :
    SimR P base (fun ρ l (vs : Array Value) => VsRel ρ l vs.toList ∧ vs.size = k) ρ0 (loadCellsB x off k) (loadCells ⟨blk, off, none⟩ k) := by
  intro st l st' hm ρ w he hr _
  obtain ⟨b, s1, h1, h2⟩ := bnd_ok hm
  obtain ⟨hx, hh, hn⟩ := getB_ok h1
  cases b with
  | cells t n cs ro =>
    have h2' : cutL off k n cs s1 = .ok l st' := h2
    unfold cutL at h2'
    cases hc : Nat.ble (Nat.add off k) n with
    | false => rw [hc] at h2'; simp only [cond_false] at h2'; exact (no_ok h2').elim
    | true =>
      rw [hc] at h2'
      simp only [cond_true] at h2'
      obtain ⟨rfl, rfl⟩ := ret_ok h2'
      have hle : off + k ≤ n := Nat.le_of_ble_eq_true hc
      obtain ⟨vs, hl, hv, hcell⟩ := cells_read (hr.blk x _ hx) (he _ _ hρ) hle
      refine ⟨vs.toArray, w, ρ, ?_, ⟨hv, by simpa using hl⟩, ?_⟩
      · have := run_loadCells_list (P := P) w ⟨blk, off, none⟩ vs hcell
        rwa [hl] at this
      · rw [hh, hn]; exact Out.refl hr
  | map es => exact (no_ok (show (no 11 : M (List V)) s1 = .ok l st' from h2)).elim
  | dead => exact (no_ok (show (no 11 : M (List V)) s1 = .ok l st' from h2)).elim

theorem list_write (a l : List Value) (n off k : Nat) (hk : l.length = k) (h1 : off + k ≤ n) (h2 : n ≤ a.length) :
    (a.take off ++ l ++ a.drop (off + l.length)).take n = (a.take n).take off ++ l ++ (a.take n).drop (off + k) := by
  subst hk
  have e : a = a.take n ++ a.drop n := (List.take_append_drop n a).symm
  have hl : (a.take n).length = n := by simp; omega
  generalize a.take n = L at *
  generalize a.drop n = T at *
  subst e
  have e1 : (L ++ T).take off = L.take off := List.take_append_of_le_length (by omega)
  have e2 : (L ++ T).drop (off + l.length) = L.drop (off + l.length) ++ T := List.drop_append_of_le_length (by omega)
  rw [e1, e2, ← List.append_assoc]
  exact List.take_left' (by simp; omega)

/-- cells are written -/
theorem sim_storeCells {x off blk sz : Nat} {vs : List V} {l : List Value} (hρ : ρ0 x = some (blk, sz)) (hv : VsRel ρ0 vs l) :
    SimR P base (fun _ (_ : Unit) (_ : Unit) => True) ρ0 (storeCellsB x off vs) (storeCells ⟨blk, off, none⟩ l) := by
  intro st u st' hm ρ w he hr _
  obtain ⟨b, s1, h1, h2⟩ := bnd_ok hm
  obtain ⟨hx, hh, hn⟩ := getB_ok h1
  cases b with
  | cells t n cs ro =>
    have h2' : (putCells x off vs (.cells t n cs ro)) s1 = .ok u st' := h2
    unfold putCells at h2'
    simp only at h2'
    cases ro with
    | true => simp only [cond_true] at h2'; exact (no_ok h2').elim
    | false =>
      simp only [cond_false] at h2'
      cases hc : Nat.ble (Nat.add off (lLen vs)) n with
      | false => rw [hc] at h2'; simp only [cond_false] at h2'; exact (no_ok h2').elim
      | true =>
        rw [hc] at h2'
        simp only [cond_true] at h2'
        cases ha : lAll V.oneC vs with
        | false => rw [ha] at h2'; simp only [cond_false] at h2'; exact (no_ok h2').elim
        | true =>
          rw [ha] at h2'
          simp only [cond_true] at h2'
          obtain ⟨_, hh2, hn2⟩ := modB_ok h2'
          have hle : off + vs.length ≤ n := by have := Nat.le_of_ble_eq_true hc; rw [lLen_eq] at this; exact this
          rw [lAll_eq] at ha
          have hbr := hr.blk x _ hx
          obtain ⟨k1, blk', sz', arr, fz, k2, k3, k4, k5, k6, k7⟩ := hbr
          have k2' := he _ _ hρ
          rw [k2] at k2'
          cases k2'
          obtain ⟨rfl, kb⟩ := k7 rfl
          have hvl := hv.mono he
          have hlen := hvl.length
          have hone := hvl.oneC ha
          have hrun := run_storeCells_at P blk off t l 0 arr w k3 (by simp; omega) hone
          simp only [Nat.add_zero] at hrun
          refine ⟨(), w.setRow blk (arr.toList.take off ++ l ++ arr.toList.drop (off + l.length)).toArray, ρ, hrun, trivial, ?_⟩
          have hrow := setRow_heap w blk arr (arr.toList.take off ++ l ++ arr.toList.drop (off + l.length)).toArray t (0, 0) k3
          have hrel : Rel ρ base (st.h.set x (.cells t n (lSet off vs cs) false)) (w.setRow blk (arr.toList.take off ++ l ++ arr.toList.drop (off + l.length)).toArray) := by
            refine rel_mod hr hx rfl k2 (by simp [World.setRow]) (fun k hk => setRow_other w blk k _ hk) ?_
            refine ⟨by rw [lSet_length _ _ _ (by omega)]; exact k1, blk, sz, _, (0, 0), k2, hrow, ?_, k5, ?_, fun _ => ⟨rfl, kb⟩⟩
            · simp; omega
            · rw [lSet_eq _ _ _ (by omega)]
              have e : (arr.toList.take off ++ l ++ arr.toList.drop (off + l.length)).take n = (arr.toList.take n).take off ++ l ++ (arr.toList.take n).drop (off + vs.length) :=
                list_write arr.toList l n off vs.length hlen (by omega) (by simp; omega)
              show VsRel ρ _ (List.take n ((arr.toList.take off ++ l ++ arr.toList.drop (off + l.length)).toArray).toList)
              rw [List.toList_toArray, e]
              exact ((k6.take off).append hvl).append (k6.drop (off + vs.length))
          refine ⟨by rw [hh2, hh]; exact hrel, Grow.refl _, fun _ a b => absurd a b, ⟨rfl, rfl, rfl, by simp [World.setRow], fun k hk => setRow_other w blk k _ (by omega)⟩⟩
  | map es => exact (no_ok (show (no 15 : M Unit) s1 = .ok u st' from h2)).elim
  | dead => exact (no_ok (show (no 15 : M Unit) s1 = .ok u st' from h2)).elim

/-- a new row of cells -/
theorem sim_newRow {t : TypeId} {cs : List V} {ro : Bool} {n : Nat} {l : List Value} {arr : Array Value} (hv : VsRel ρ0 cs l) (hl : arr.toList = l) (hn : n = l.length) :
    SimR P base (fun ρ x (a : Addr) => ∃ blk, a = ⟨blk, 0, none⟩ ∧ ρ x = some (blk, n)) ρ0 (newB (.cells t n cs ro)) (newRow t arr) := by
  intro st x st' hm ρ w he hr hf
  obtain ⟨rfl, hh, hn'⟩ := newB_ok hm
  have hfree : ρ st.n = none := hf st.n (Nat.le_refl _) (by omega)
  have hlen := hv.length
  have hsz : arr.size = n := by rw [hn, ← hl]; simp
  refine ⟨⟨w.heap.size, 0, none⟩, { w with heap := w.heap.push (.cells arr t) }, putR ρ st.n (w.heap.size, n), by simp [newRow], ⟨w.heap.size, rfl, putR_same⟩, ?_⟩
  rw [hh, hn']
  refine out_push hr hfree rfl rfl rfl rfl ?_
  refine ⟨by omega, w.heap.size, n, arr, (0, 0), putR_same, Array.getElem?_push_size, hsz, Nat.le_refl _, ?_, fun _ => ⟨rfl, hr.base⟩⟩
  have : arr.toList.take n = l := by subst hl; exact List.take_of_length_le (by simp; omega)
  rw [this]
  exact (hv.mono he).mono (putR_grow hfree)

theorem sim_newVar {t : TypeId} {v : V} {u : Value} (hv : VRel ρ0 v u) :
    SimR P base (fun ρ x (a : Addr) => VRel ρ x (.pointer (some a))) ρ0 (newVarB t v) (newVar t u) := by
  have e : newVar t u = (newRow t u.cells >>= fun a => pure a) := by simp [newVar]
  rw [e]
  refine sim_bnd (good_newCells) (fun _ => good_ret _) (Q := fun ρ x (a : Addr) => ∃ blk n, a = ⟨blk, 0, none⟩ ∧ ρ x = some (blk, n)) ?_ ?_
  · unfold newCells
    rw [lLen_eq]
    have hc := hv.cells
    refine sim_mono (sim_newRow (l := u.cells.toList) hc rfl (by rw [hc.length])) fun ρ x a _ ⟨blk, h1, h2⟩ => ⟨blk, _, h1, h2⟩
  · rintro ρ1 x a he ⟨blk, n, rfl, hx⟩
    refine sim_ret fun ρ hg => ?_
    simp only [VRel]
    exact ⟨blk, n, hg _ _ hx, rfl⟩
end Go.Ev
