/- Operations side by side (6): append. -/
import Derived.Test.YtdhcifmcocgloaaGreatEvN
set_option linter.unusedSimpArgs false
set_option linter.unusedVariables false
namespace Go.Ev
open Go.RowKit (Below)
variable {P : Program} {base : Nat} {ρ0 ρ : Rho} {a : A} {act : Act}

theorem bytesOk_ok {e : TypeId} {k : Nat} {i : TypeInfo} (hi : P.info? e = some i) (h : bytesOk P e k = true) : i.bytes * k ≤ 1073741824 := by
  unfold bytesOk at h
  rw [hi] at h
  exact Nat.le_of_ble_eq_true h
theorem growOk_ok {e : TypeId} {sz k : Nat} (h : growOk P e sz k = true) : ∃ z, (∀ w, (zeroValue e).run P w = .ok z w) ∧ z.cells.size = sz ∧ bytesOk P e k = true ∧ k < 1048576 := by
  unfold growOk at h
  cases h1 : zOk P e sz with
  | false => rw [h1] at h; cases h
  | true =>
    rw [h1] at h
    simp only [cond_true] at h
    cases h2 : bytesOk P e k with
    | false => rw [h2] at h; cases h
    | true =>
      rw [h2] at h
      simp only [cond_true] at h
      unfold zOk at h1
      split at h1
      · rename_i z hz
        obtain ⟨u, hu, hr⟩ := zeroV_run hz
        refine ⟨u, hu, ?_, rfl, by simpa [Nat.blt_eq] using h⟩
        have h3 := (hr (fun _ => none)).cells.length
        have h4 := Nat.eq_of_beq_eq_true h1
        rw [lLen_eq] at h4
        simp at h3
        omega
      · cases h1

theorem appended_zero (zeros : Bool) (e : TypeId) (size : Nat) {x : V} {u : Value} (hx : VRel ρ x u) (hs : zeros = true ∨ srcLen x ≠ none) (w : World) : (appended zeros e size 0 u).run P w = .ok #[] w := by
  unfold appended
  cases zeros with
  | true => simp
  | false =>
    simp only [Bool.not_false, if_true]
    have hs' : srcLen x ≠ none := by rcases hs with h | h; cases h; exact h
    cases x with
    | nils => simp only [VRel] at hx; subst hx; rfl
    | emp => simp only [VRel] at hx; obtain ⟨a, c, rfl⟩ := hx; simp only [Builtin.firstCells, Nat.zero_mul]; exact run_loadCells_list (P := P) w a [] (fun j v h => by simp at h)
    | sl b off len cap => simp only [VRel] at hx; obtain ⟨b, sz, c, _, rfl, _⟩ := hx; simp only [Builtin.firstCells, Nat.zero_mul]; exact run_loadCells_list (P := P) w _ [] (fun j v h => by simp at h)
    | str s => simp only [VRel] at hx; obtain ⟨b, rfl, _⟩ := hx; simp [Builtin.firstCells]
    | _ => exact (hs' rfl).elim

theorem lenIs_of {zeros : Bool} {x : V} {u : Value} {m : Nat} (h : apLen zeros x = some m) (hx : VRel ρ x u) : LenIs P zeros u m ∧ (zeros = true ∨ srcLen x = some m) := by
  unfold apLen at h
  cases zeros with
  | true =>
    simp only [cond_true] at h
    obtain ⟨k, hk⟩ := asNat_rel h hx
    exact ⟨⟨k, hk⟩, Or.inl rfl⟩
  | false =>
    simp only [cond_false] at h
    refine ⟨fun w => ?_, Or.inr h⟩
    cases x with
    | nils => simp only [VRel] at hx; subst hx; simp only [srcLen, Option.some.injEq] at h; subst h; rfl
    | emp => simp only [VRel] at hx; obtain ⟨a, c, rfl⟩ := hx; simp only [srcLen, Option.some.injEq] at h; subst h; rfl
    | sl b off len cap => simp only [VRel] at hx; obtain ⟨b, sz, c, _, rfl, _⟩ := hx; simp only [srcLen, Option.some.injEq] at h; subst h; rfl
    | str s =>
      simp only [VRel] at hx; obtain ⟨b, rfl, hb⟩ := hx; simp only [srcLen, Option.some.injEq] at h; subst h
      have : lLen s = b.size := by rw [lLen_eq, ← hb, List.length_map, Array.length_toList]; rfl
      rw [this]; rfl
    | _ => cases h

theorem cell_drawn (w : World) (k : Nat) (ad : Addr) : ({ w with drawn := k } : World).cell? ad = w.cell? ad := rfl

theorem apSrc_ok {e : TypeId} {sz m : Nat} {zeros : Bool} {x : V} {u : Value} {c : List V} {st st' : S} {w : World} (hm : apSrc P e sz zeros m x st = .ok c st') (hr : Rel ρ base st.h w) (hx : VRel ρ x u)
    (hl : zeros = true ∨ srcLen x = some m) (h0 : m * sz ≠ 0) (hc : c.length = m * sz) :
    st'.h = st.h ∧ st'.n = st.n ∧ ∃ new : Array Value, VsRel ρ c new.toList ∧ ∀ k, (appended zeros e sz m u).run P { w with drawn := k } = .ok new { w with drawn := k } := by
  unfold apSrc at hm
  cases zeros with
  | true =>
    simp only [cond_true] at hm
    obtain ⟨z, s1, h1, h2⟩ := bnd_ok hm
    obtain ⟨hz, rfl⟩ := opt_ok h1
    obtain ⟨rfl, rfl⟩ := ret_ok h2
    obtain ⟨zu, hzu, hzr⟩ := zeroV_run hz
    refine ⟨rfl, rfl, Builtin.zeroCells zu.cells m, ?_, fun k => ?_⟩
    · exact rep_rel (hzr ρ).cells m
    · simp [appended, h0, hzu]
  | false =>
    simp only [cond_false] at hm
    have hl' : srcLen x = some m := by rcases hl with h | h; cases h; exact h
    simp only [appended, Bool.not_false, if_true]
    cases x with
    | nils => obtain ⟨rfl, rfl⟩ := ret_ok hm; simp at hc; omega
    | emp => obtain ⟨rfl, rfl⟩ := ret_ok hm; simp at hc; omega
    | sl b off len cap =>
      simp only [VRel] at hx
      obtain ⟨blk, tot, cc, hρ, rfl, _⟩ := hx
      simp only [srcLen, Option.some.injEq] at hl'
      subst hl'
      obtain ⟨t, n, cs, ro, hget, hle, rfl, hh, hn⟩ := loadCellsB_ok hm
      obtain ⟨vs, hvl, hv, hcell⟩ := cells_read (hr.blk b _ hget) hρ hle
      refine ⟨hh, hn, vs.toArray, hv, fun k => ?_⟩
      exact run_firstCells_some (P := P) { w with drawn := k } sz len ⟨blk, off, none⟩ len cc vs hvl (fun j v hj => hcell j v hj)
    | str s =>
      obtain ⟨rfl, rfl⟩ := ret_ok hm
      simp only [VRel] at hx
      obtain ⟨b, rfl, hb⟩ := hx
      simp only [srcLen, Option.some.injEq] at hl'
      have hsz : lLen s = b.size := by rw [lLen_eq, ← hb, List.length_map, Array.length_toList]; rfl
      refine ⟨rfl, rfl, b.data.map fun b => Value.int .u8 b.toNat, ?_, fun k => ?_⟩
      · rw [lMap_eq, ← hb, List.map_map, Array.toList_map]
        exact bytes_rel b.data.toList
      · have : (b.extract 0 m).data = b.data := by
          rw [ByteArray.data_extract, ← hl', hsz]
          exact Array.extract_size
        simp only [Builtin.firstCells, this]
        rfl
    | _ => cases hl'

/-- a new row, with room behind it -/
theorem push_row {w : World} {st st' : S} {v : V} {e : TypeId} {sz k cap : Nat} {cs : List V} {l : Array Value} {z : Value} (hcs : VsRel ρ cs l.toList) (hlen : cs.length = k * sz) (hz : z.cells.size = sz)
    (hm : (bnd (newB (.cells e (Nat.mul k sz) cs false)) fun b' => ret (.sl b' 0 k (.open_ sz))) st = .ok v st') (hr : Rel ρ base st.h w) (hf : ∀ x, st.n ≤ x → x < st'.n → ρ x = none) (hk : k ≤ cap) :
    ∃ ρ', VRel ρ' v (.slice (some ⟨w.heap.size, 0, none⟩) k cap) ∧ Out ρ base st.n st'.n st'.h w ρ' (w.drew.alloc (.cells (l ++ Builtin.zeroCells z.cells (cap - k)) e)) := by
  obtain ⟨x, s1, h1, h2⟩ := bnd_ok hm
  obtain ⟨rfl, rfl⟩ := ret_ok h2
  obtain ⟨rfl, hh, hn'⟩ := newB_ok h1
  have hfree : ρ st.n = none := hf st.n (Nat.le_refl _) (by omega)
  have hls : l.size = k * sz := by have := hcs.length; simp at this; omega
  have hsz : (l ++ Builtin.zeroCells z.cells (cap - k)).size = cap * sz := by
    rw [Array.size_append, size_zeroCells, hz, hls, ← Nat.add_mul]
    congr 1
    omega
  refine ⟨putR ρ st.n (w.heap.size, cap * sz), ?_, ?_⟩
  · simp only [VRel]
    exact ⟨w.heap.size, cap * sz, cap, putR_same, rfl, by show 0 + cap * sz = cap * sz; omega, hk⟩
  · rw [hh, hn']
    refine out_push hr hfree rfl rfl rfl rfl ?_
    refine ⟨hlen, w.heap.size, cap * sz, _, (0, 0), putR_same, Array.getElem?_push_size, hsz, Nat.mul_le_mul_right _ hk, ?_, fun _ => ⟨rfl, hr.base⟩⟩
    have : (l ++ Builtin.zeroCells z.cells (cap - k)).toList.take (Nat.mul k sz) = l.toList := by
      rw [Array.toList_append, List.take_append_of_le_length (by simp [hls])]
      exact List.take_of_length_le (by simp [hls])
    rw [this]
    exact hcs.mono (putR_grow hfree)

/-- what is known where an append's elements have been read -/
structure ApCtx (P : Program) (ρ : Rho) (t xt e : TypeId) (dx : TypeDesc) (i : TypeInfo) (sz m : Nat) (c : List V) (ux z0 : Value) (new : Array Value) : Prop where
  ht : P.underlying t = some (.slice e)
  hxt : P.underlying xt = some dx
  hi : P.info? e = some i
  hsz : i.size = sz
  pos : 0 < sz
  len : LenIs P (isIntD dx) ux m
  small : m < 1048576
  bytes : i.bytes * m ≤ 1073741824
  rel : VsRel ρ c new.toList
  clen : c.length = m * sz
  zero : isIntD dx = true → ∀ w, (zeroValue e).run P w = .ok z0 w

def ApRes (P : Program) (ρ : Rho) (base : Nat) (t xt ty : TypeId) (us ux : Value) (w : World) (st st' : S) (v : V) : Prop :=
  ∃ r w' ρ', (Builtin.append_ #[t, xt] ty #[us, ux]).run P w = .ok r w' ∧ VRel ρ' v r ∧ Out ρ base st.n st'.n st'.h w ρ' w'

variable {t xt ty e : TypeId} {dx : TypeDesc} {i : TypeInfo} {sz m : Nat} {c : List V} {ux z0 : Value} {new : Array Value} {st st' : S} {v : V} {w : World}

theorem apNew_ok (C : ApCtx P ρ t xt e dx i sz m c ux z0 new) (hap : ∀ k, (appended (isIntD dx) e sz m ux).run P { w with drawn := k } = .ok new { w with drawn := k }) (h0 : 0 < m) (hm : apNew P e sz m c st = .ok v st') (hr : Rel ρ base st.h w) (hf : ∀ x, st.n ≤ x → x < st'.n → ρ x = none) :
    ApRes P ρ base t xt ty (.slice none 0 0) ux w st st' v := by
  unfold apNew at hm
  cases hg : growOk P e sz m with
  | false => rw [hg] at hm; simp only [cond_false] at hm; exact (no_ok hm).elim
  | true =>
    rw [hg] at hm
    simp only [cond_true] at hm
    obtain ⟨z, hz, hzs, hb, hk⟩ := growOk_ok hg
    have hrun := run_append_grows (P := P) (ty := ty) (w := w) C.ht C.hxt C.hi C.len C.small C.bytes (b := none) (sLen := 0) (sCap := 0) (by omega) (by omega) (by have := C.bytes; simpa using this) (new := new) (old := #[]) hz
      (by rw [C.hsz]; exact hap (w.drawn + 1)) (by rw [C.hsz]; rfl)
    have hge := grownCap_ge w (0 + m) 0 e
    simp only [Nat.zero_add, Array.empty_append] at hrun hge
    obtain ⟨ρ', h1, h2⟩ := push_row C.rel C.clen hzs hm hr hf hge
    exact ⟨_, _, ρ', hrun, h1, h2⟩

theorem apGrow_ok (C : ApCtx P ρ t xt e dx i sz m c ux z0 new) (hap : ∀ k, (appended (isIntD dx) e sz m ux).run P { w with drawn := k } = .ok new { w with drawn := k }) {blk off len cap n : Nat} {cs : List V} {arr : Array Value} {et : TypeId} {fz : Nat × Nat}
    (hw : w.heap[blk]? = some (.cells arr et fz)) (hn : n ≤ arr.size) (hcs : VsRel ρ cs (arr.toList.take n)) (hcap : cap < len + m)
    (hm : apGrow P e sz off len m n cs c st = .ok v st') (hr : Rel ρ base st.h w) (hf : ∀ x, st.n ≤ x → x < st'.n → ρ x = none) :
    ApRes P ρ base t xt ty (.slice (some ⟨blk, off, none⟩) len cap) ux w st st' v := by
  unfold apGrow at hm
  cases hle : Nat.ble (Nat.add off (Nat.mul len sz)) n with
  | false => rw [hle] at hm; simp only [cond_false] at hm; exact (no_ok hm).elim
  | true =>
    rw [hle] at hm
    simp only [cond_true, force_eq] at hm
    have hle' : off + len * sz ≤ n := Nat.le_of_ble_eq_true hle
    unfold apGrow1 at hm
    cases hg : growOk P e sz (Nat.add len m) with
    | false => rw [hg] at hm; simp only [cond_false] at hm; exact (no_ok hm).elim
    | true =>
      rw [hg] at hm
      simp only [cond_true] at hm
      obtain ⟨z, hz, hzs, hb, hk⟩ := growOk_ok hg
      have hk' : len + m < 1048576 := hk
      have hb' : i.bytes * (len + m) ≤ 1073741824 := bytesOk_ok C.hi hb
      have hol : (((arr.toList.take n).drop off).take (len * sz)).length = len * sz := by simp; omega
      have hcell : ∀ (j : Nat) (v : Value), (((arr.toList.take n).drop off).take (len * sz))[j]? = some v → w.drew.cell? ((⟨blk, off, none⟩ : Addr).add j) = some v := by
        intro j v hv
        rw [Addr.add_lit]
        have hw' : w.drew.heap[blk]? = some (.cells arr et fz) := hw
        rw [cell_at hw']
        rw [List.getElem?_take] at hv
        split at hv
        · rw [List.getElem?_drop, List.getElem?_take] at hv
          split at hv
          · simpa using hv
          · cases hv
        · cases hv
      have hold := run_firstCells_some (P := P) w.drew sz len ⟨blk, off, none⟩ len cap _ hol hcell
      have hrun := run_append_grows (P := P) (ty := ty) (w := w) C.ht C.hxt C.hi C.len C.small C.bytes (b := some ⟨blk, off, none⟩) (sLen := len) (sCap := cap) hcap hk' hb' (new := new) hz
        (by rw [C.hsz]; exact hap (w.drawn + 1)) (by rw [C.hsz]; exact hold)
      have hge := grownCap_ge w (len + m) cap e
      have hoc : VsRel ρ (lTake (Nat.mul len sz) (lDrop off cs)) (((arr.toList.take n).drop off).take (len * sz)) := by
        rw [lTake_eq, lDrop_eq]; exact (hcs.drop off).take _
      obtain ⟨ρ', h1, h2⟩ := push_row (k := len + m) (l := (((arr.toList.take n).drop off).take (len * sz)).toArray ++ new) (by rw [Array.toList_append, lApp_eq]; exact hoc.append C.rel)
        (by rw [lApp_eq, List.length_append, C.clen, ← hoc.length, hol, Nat.add_mul]) hzs hm hr hf hge
      exact ⟨_, _, ρ', hrun, h1, h2⟩

theorem apRoom_ok (C : ApCtx P ρ t xt e dx i sz m c ux z0 new) (hap : ∀ k, (appended (isIntD dx) e sz m ux).run P { w with drawn := k } = .ok new { w with drawn := k }) {x blk tot off len rc : Nat} {cap : Cap} (hρ : ρ x = some (blk, tot)) (hcr : capRel cap off len rc tot)
    (hfit : len + m ≤ rc) (hm : apRoom sz x off len m cap c st = .ok v st') (hr : Rel ρ base st.h w) (hf : ∀ x, st.n ≤ x → x < st'.n → ρ x = none) :
    ApRes P ρ base t xt ty (.slice (some ⟨blk, off, none⟩) len rc) ux w st st' v := by
  unfold apRoom at hm
  rw [force_eq] at hm
  obtain ⟨u, s1, h1, h2⟩ := bnd_ok hm
  obtain ⟨rfl, rfl⟩ := ret_ok h2
  obtain ⟨_, w', ρ', e1, _, o⟩ := sim_storeCells (P := P) (base := base) (off := off + len * sz) hρ C.rel st u s1 h1 ρ w (Grow.refl _) hr hf
  refine ⟨.slice (some ⟨blk, off, none⟩) (len + m) rc, w', ρ', ?_, ?_, o⟩
  · exact run_append_fits (P := P) C.ht C.hxt C.hi C.len C.small C.bytes (b := some ⟨blk, off, none⟩) hfit C.zero (by rw [C.hsz]; exact hap w.drawn) (by simp only [C.hsz, Addr.add_lit]; exact e1)
  · simp only [VRel]
    refine ⟨blk, tot, rc, o.ext _ _ hρ, rfl, ?_⟩
    cases cap with
    | exact k => exact hcr
    | open_ z => exact ⟨hcr.1, hfit⟩

/-- a live block's old name is dead; a new name is the same block, changed -/
theorem rel_alias {h : Tr B} {w' : World} (hr : Rel ρ base h w) {x n blk tot : Nat} {b b' : B} (hx : h.get x = some b) (hl : b.live = true) (hρ : ρ x = some (blk, tot)) (hn : ρ n = none)
    (hsize : w'.heap.size = w.heap.size) (hoth : ∀ k, k ≠ blk → w'.heap[k]? = w.heap[k]?) (hb : BRel (putR ρ n (blk, tot)) base w' n b') : Rel (putR ρ n (blk, tot)) base ((h.set x .dead).set n b') w' := by
  have hg := putR_grow (p := (blk, tot)) hn
  have hxn : n ≠ x := fun e => by rw [e, hρ] at hn; cases hn
  have old : ∀ y c, n ≠ y → ((h.set x .dead).set n b').get y = some c → c = .dead ∨ (h.get y = some c ∧ x ≠ y) := by
    intro y c hy hc
    rw [Tr.get_set_ne _ _ hy] at hc
    by_cases e : x = y
    · subst e; rw [Tr.get_set_same] at hc; cases hc; exact Or.inl rfl
    · rw [Tr.get_set_ne _ _ e] at hc; exact Or.inr ⟨hc, e⟩
  refine ⟨fun y c hy => ?_, fun y z c d p s q t hy hz hc hd hp hq hpq => ?_, fun y p s hy => ?_, by rw [hsize]; exact hr.base⟩
  · by_cases e : n = y
    · subst e; rw [Tr.get_set_same] at hy; cases hy; exact hb
    · rcases old y c e hy with rfl | ⟨h1, h2⟩
      · exact trivial
      · exact (hr.blk y c h1).mono hg fun hlc blk' sz' h3 => hoth blk' fun e2 => h2 (hr.inj x y b c blk _ blk' _ hx h1 hl hlc hρ h3 e2.symm)
  · by_cases e : n = y
    · by_cases e2 : n = z
      · exact e.symm.trans e2
      · subst e
        rw [putR_same] at hp
        cases hp
        rw [putR_ne (Ne.symm e2)] at hq
        rcases old z d e2 hz with rfl | ⟨h1, h2⟩
        · cases hd
        · exact (h2 (hr.inj x z b d blk _ q _ hx h1 hl hd hρ hq hpq)).elim
    · rw [putR_ne (Ne.symm e)] at hp
      rcases old y c e hy with rfl | ⟨h1, h2⟩
      · cases hc
      · by_cases e2 : n = z
        · subst e2
          rw [putR_same] at hq
          cases hq
          exact (h2 (hr.inj x y b c blk _ p _ hx h1 hl hc hρ hp hpq.symm)).elim
        · rw [putR_ne (Ne.symm e2)] at hq
          rcases old z d e2 hz with rfl | ⟨h3, h4⟩
          · cases hd
          · exact hr.inj y z c d p s q t h1 h3 hc hd hp hq hpq
  · rw [hsize]
    by_cases e : y = n
    · subst e; rw [putR_same] at hy; cases hy; exact hr.lt x _ _ hρ
    · rw [putR_ne e] at hy; exact hr.lt y p s hy

theorem apMove_ok (C : ApCtx P ρ t xt e dx i sz m c ux z0 new) (hap : ∀ k, (appended (isIntD dx) e sz m ux).run P { w with drawn := k } = .ok new { w with drawn := k }) {x blk tot off len rc n : Nat} {cs : List V}
    (hget : st.h.get x = some (.cells e n cs false)) (hρ : ρ x = some (blk, tot)) (hcr : capRel (.open_ sz) off len rc tot)
    (hm : apMove P e sz x off len m n cs c st = .ok v st') (hr : Rel ρ base st.h w) (hf : ∀ x, st.n ≤ x → x < st'.n → ρ x = none) :
    ApRes P ρ base t xt ty (.slice (some ⟨blk, off, none⟩) len rc) ux w st st' v := by
  unfold apMove at hm
  cases ho : Nat.beq off 0 with
  | false => rw [ho] at hm; simp only [cond_false] at hm; exact (no_ok hm).elim
  | true =>
    rw [ho] at hm
    simp only [cond_true] at hm
    have ho' := Nat.eq_of_beq_eq_true ho
    subst ho'
    cases hone : lAll V.oneC c with
    | false => rw [hone] at hm; simp only [cond_false] at hm; exact (no_ok hm).elim
    | true =>
      rw [hone] at hm
      simp only [cond_true] at hm
      obtain ⟨u, s1, h1, h2⟩ := bnd_ok hm
      obtain ⟨_, hh1, hn1⟩ := modB_ok h1
      have hbr := hr.blk x _ hget
      obtain ⟨k1, blk', tot', arr, fz, k2, k3, k4, k5, k6, k7⟩ := hbr
      rw [hρ] at k2
      cases k2
      obtain ⟨rfl, kb⟩ := k7 rfl
      by_cases hfit : len + m ≤ rc
      · -- there is room
        unfold apGrow at h2
        cases hle : Nat.ble (Nat.add 0 (Nat.mul len sz)) n with
        | false => rw [hle] at h2; simp only [cond_false] at h2; exact (no_ok h2).elim
        | true =>
          rw [hle] at h2
          simp only [cond_true, force_eq] at h2
          have hle' : 0 + len * sz ≤ n := Nat.le_of_ble_eq_true hle
          unfold apGrow1 at h2
          cases hg : growOk P e sz (Nat.add len m) with
          | false => rw [hg] at h2; simp only [cond_false] at h2; exact (no_ok h2).elim
          | true =>
            rw [hg] at h2
            simp only [cond_true] at h2
            obtain ⟨y, s2, h3, h4⟩ := bnd_ok h2
            obtain ⟨rfl, rfl⟩ := ret_ok h4
            obtain ⟨rfl, hh2, hn2⟩ := newB_ok h3
            have hfree : ρ st.n = none := hf st.n (Nat.le_refl _) (by omega)
            rw [lAll_eq] at hone
            have hnl : new.toList.length = m * sz := by rw [C.rel.length, C.clen]
            have hns : new.size = m * sz := by simpa using hnl
            have hkt : (len + m) * sz ≤ tot := by
              have h5 := hcr.1
              have h6 : (len + m) * sz ≤ rc * sz := Nat.mul_le_mul_right _ hfit
              omega
            have hkk : (len + m) * sz = len * sz + m * sz := Nat.add_mul _ _ _
            have hrun := run_storeCells_at P blk (len * sz) e new.toList 0 arr w k3 (by omega) (C.rel.oneC hone)
            simp only [Nat.add_zero] at hrun
            refine ⟨.slice (some ⟨blk, 0, none⟩) (len + m) rc, w.setRow blk (arr.toList.take (len * sz) ++ new.toList ++ arr.toList.drop (len * sz + new.toList.length)).toArray, putR ρ s1.n (blk, arr.size), ?_, ?_, ?_⟩
            · exact run_append_fits (P := P) C.ht C.hxt C.hi C.len C.small C.bytes (b := some ⟨blk, 0, none⟩) hfit C.zero (by rw [C.hsz]; exact hap w.drawn) (by simp only [C.hsz, Addr.add_lit, Nat.zero_add]; exact hrun)
            · simp only [VRel]
              exact ⟨blk, arr.size, rc, putR_same, rfl, by rw [k4]; exact hcr.1, hfit⟩
            · have hrow := setRow_heap w blk arr (arr.toList.take (len * sz) ++ new.toList ++ arr.toList.drop (len * sz + new.toList.length)).toArray e (0, 0) k3
              rw [hh2, hn2, hh1, hn1]
              refine ⟨rel_alias hr hget rfl (by rw [k4]; exact hρ) hfree (by simp [World.setRow]) (fun k hk => setRow_other w blk k _ hk) ?_, putR_grow hfree, fun z hz hz' => ?_, ⟨rfl, rfl, rfl, by simp [World.setRow], fun k hk => setRow_other w blk k _ (by omega)⟩⟩
              · refine ⟨?_, blk, arr.size, _, (0, 0), putR_same, hrow, ?_, ?_, ?_, fun _ => ⟨rfl, kb⟩⟩
                · rw [lApp_eq, List.length_append, lTake_eq, lDrop_eq, C.clen]
                  simp
                  have : len * sz ≤ cs.length := by omega
                  show min (len * sz) cs.length + m * sz = (len + m) * sz
                  omega
                · simp; omega
                · rw [k4]; exact hkt
                · have e2 : (arr.toList.take (len * sz) ++ new.toList ++ arr.toList.drop (len * sz + new.toList.length)).take ((len + m) * sz) = arr.toList.take (len * sz) ++ new.toList := by
                    refine List.take_left' ?_
                    rw [List.length_append, List.length_take, hnl]
                    simp
                    omega
                  show VsRel _ _ (List.take ((len + m) * sz) ((arr.toList.take (len * sz) ++ new.toList ++ arr.toList.drop (len * sz + new.toList.length)).toArray).toList)
                  rw [List.toList_toArray, e2, lApp_eq, lTake_eq, lDrop_eq]
                  have h7 : arr.toList.take (len * sz) = ((arr.toList.take n).drop 0).take (len * sz) := by
                    rw [List.drop_zero, List.take_take]
                    congr 1
                    omega
                  rw [h7]
                  exact (((k6.drop 0).take _).append C.rel).mono (putR_grow hfree)
              · by_cases e3 : z = st.n
                · omega
                · rw [putR_ne e3] at hz'; exact absurd hz hz'
      · have hr1 : Rel ρ base s1.h w := by rw [hh1]; exact rel_dead hr x
        obtain ⟨r, w', ρ', e1, e2, e3⟩ := apGrow_ok (ty := ty) (cap := rc) (blk := blk) (off := 0) C hap k3 (by omega) k6 (by omega) h2 hr1 (fun y hy hy' => hf y (by omega) hy')
        exact ⟨r, w', ρ', e1, e2, by rw [← hn1]; exact e3⟩
end Go.Ev
