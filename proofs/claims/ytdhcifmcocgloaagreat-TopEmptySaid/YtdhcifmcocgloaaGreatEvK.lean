/- Operations side by side (2): building, making, slicing. -/
import Derived.Test.YtdhcifmcocgloaaGreatEvJ
import Derived.Laws.MakeOwn
import Derived.Laws.Slices
set_option linter.unusedSimpArgs false
set_option linter.unusedVariables false
namespace Go.Ev
variable {P : Program} {base : Nat} {ρ0 ρ : Rho} {a : A} {act : Act}

/-! ### building -/
theorem fold_cells (off : Nat) : ∀ (vs : List Value) (k : Nat) (cs : Array Value), off + k + vs.length ≤ cs.size →
    ((vs.zipIdx k).foldl (fun (cs : Array Value) (p : Value × Nat) => cs.setIfInBounds (off + p.2) p.1) cs).toList = cs.toList.take (off + k) ++ vs ++ cs.toList.drop (off + k + vs.length)
  | [], k, cs, h => by simp
  | v :: vs, k, cs, h => by
    simp only [List.length_cons] at h
    rw [List.zipIdx_cons, List.foldl_cons, fold_cells off vs (k + 1) _ (by simp; omega)]
    simp only [Array.toList_setIfInBounds, List.length_cons]
    have hlt : off + k < cs.toList.length := by simp; omega
    have e1 : (cs.toList.set (off + k) v).take (off + (k + 1)) = cs.toList.take (off + k) ++ [v] := by
      rw [← Nat.add_assoc, List.take_set, List.take_succ_eq_append_getElem hlt, List.set_append_right _ _ (by simp; omega)]
      simp
      have : off + k - min (off + k) cs.size = 0 := by simp at hlt; omega
      rw [this]
      rfl
    have e2 : (cs.toList.set (off + k) v).drop (off + (k + 1) + vs.length) = cs.toList.drop (off + k + (vs.length + 1)) := by
      rw [List.drop_set_of_lt (by omega)]
      congr 1
      omega
    rw [e1, e2]
    simp

theorem fold_cells0 (off : Nat) (vs cs : Array Value) (h : off + vs.size ≤ cs.size) :
    (vs.zipIdx.foldl (fun (cs : Array Value) (p : Value × Nat) => cs.setIfInBounds (off + p.2) p.1) cs).toList = cs.toList.take off ++ vs.toList ++ cs.toList.drop (off + vs.size) := by
  have := fold_cells off vs.toList 0 cs (by simpa using h)
  rw [← Array.foldl_toList]
  simpa using this

theorem fill_rel {place place' : Nat → Option (Nat × Nat)} (hp : ∀ i p, place i = some p → place' i = some p) {n : Nat} : ∀ {ps : List (Nat × V)} {l : List (Nat × Value)} {cells out : List V} {arr : Array Value},
    PsRel ρ ps l → VsRel ρ cells arr.toList → cells.length = n → fillV place n cells ps = some out → ∃ arr', Instr.fill place' arr l = some arr' ∧ VsRel ρ out arr'.toList ∧ out.length = n
  | [], _, cells, out, arr, hps, hc, hn, h => by
    simp only [PsRel] at hps
    subst hps
    simp only [fillV, Option.some.injEq] at h
    subst h
    exact ⟨arr, rfl, hc, hn⟩
  | (i, v) :: ps, _, cells, out, arr, hps, hc, hn, h => by
    obtain ⟨u, r, rfl, hv, hps⟩ := hps
    simp only [fillV] at h
    split at h
    · cases h
    · rename_i off size hpl
      cases hb : and (Nat.beq (lLen v.cells) size) (Nat.ble (Nat.add off size) n) with
      | false => rw [hb] at h; cases h
      | true =>
        rw [hb] at h
        simp only [cond_true] at h
        rw [Bool.and_eq_true] at hb
        have h1 : v.cells.length = size := by have := Nat.eq_of_beq_eq_true hb.1; rw [lLen_eq] at this; exact this
        have h2 : off + size ≤ n := Nat.le_of_ble_eq_true hb.2
        have hvc := hv.cells
        have hl1 : u.cells.size = size := by have := hvc.length; simp at this; omega
        have hl2 : arr.size = n := by have := hc.length; simp at this; omega
        have hfold := fold_cells0 off u.cells arr (by omega)
        have hset : lSet off v.cells cells = cells.take off ++ v.cells ++ cells.drop (off + v.cells.length) := lSet_eq _ _ _ (by omega)
        have hrel : VsRel ρ (lSet off v.cells cells) (u.cells.zipIdx.foldl (fun (cs : Array Value) (p : Value × Nat) => cs.setIfInBounds (off + p.2) p.1) arr).toList := by
          rw [hfold, hset, h1, hl1]
          exact ((hc.take off).append hvc).append (hc.drop (off + size))
        obtain ⟨arr', e1, e2, e3⟩ := fill_rel hp hps hrel (by rw [lSet_length _ _ _ (by omega)]; exact hn) h
        refine ⟨arr', ?_, e2, e3⟩
        simp only [Instr.fill, hp i _ hpl]
        rw [if_neg (by simp; omega)]
        exact e1

theorem allSz_run : ∀ (l : List Field), allSz P l = true → ∃ places : List (Nat × Nat), (∀ w, (l.mapM (fun f => (do pure (f.offset, ← sizeOf f.type) : Sem (Nat × Nat)))).run P w = .ok places w) ∧ ∀ i : Nat, ∀ f, l[i]? = some f → ∀ n, szOf P f.type = some n → places[i]? = some (f.offset, n)
  | [], _ => ⟨[], fun w => by simp, fun i f hf => by simp at hf⟩
  | f :: fs, h => by
    simp only [allSz] at h
    split at h
    · rename_i n hn
      obtain ⟨pl, h1, h2⟩ := allSz_run fs h
      refine ⟨(f.offset, n) :: pl, fun w => ?_, fun i g hg m hm => ?_⟩
      · rw [List.mapM_cons]
        simp only [Sem.run_bind, szOf_run hn, Result.andThen_ok, Sem.run_pure, h1]
      · cases i with
        | zero => simp at hg; subst hg; rw [hn] at hm; cases hm; simp
        | succ i => simp at hg; simpa using h2 i g hg m hm
    · cases h

theorem sim_opBuild (hA : ARel ρ0 a act) {t : TypeId} {parts : Array (Nat × Operand)} : SimV P base ρ0 (opBuild P a t parts) (Instr.build t (parts.map fun (i, x) => (i, act.eval x))) := by
  unfold opBuild
  refine sim_opt fun ps hps => sim_opt fun z hz => sim_optr fun v hv => ?_
  have hp := evalPairs_rel hA hps
  obtain ⟨u, hu, hr⟩ := zeroV_run hz
  have hzc := (hr ρ0).cells
  have hl : (parts.map fun (i, x) => (i, act.eval x)).toList = parts.toList.map fun (i, x) => (i, act.eval x) := by simp
  unfold buildCells at hv
  split at hv
  · rename_i fs hun
    cases hs : allSz P fs.toList with
    | false => rw [hs] at hv; cases hv
    | true =>
      rw [hs] at hv
      simp only [cond_true] at hv
      unfold aggO at hv
      split at hv
      · rename_i out ho
        simp only [Option.some.injEq] at hv
        subst hv
        obtain ⟨places, h1, h2⟩ := allSz_run fs.toList hs
        obtain ⟨arr', e1, e2, e3⟩ := fill_rel (place' := (places.toArray[·]?)) (fun i p hpl => by
          unfold placeS at hpl
          split at hpl
          · cases hpl
          · rename_i f hf
            split at hpl
            · cases hpl
            · rename_i n hn
              simp only [Option.some.injEq] at hpl
              subst hpl
              simpa using h2 i f (by simpa using hf) n hn) hp hzc (lLen_eq _).symm ho
        refine sim_pure (b := .agg arr') (fun w => ?_) fun ρ hg => by simp only [VRel]; exact ⟨arr'.toList, by simp, e2.mono hg⟩
        have hm : (fs.mapM (fun f => (do pure (f.offset, ← sizeOf f.type) : Sem (Nat × Nat)))).run P w = .ok places.toArray w := by
          rw [Array.mapM_eq_mapM_toList, map_eq_pure_bind, Sem.run_bind, h1]
          rfl
        simp only [Instr.build, Sem.run_bind, hu, Result.andThen_ok, run_underlying hun]
        rw [hm]
        simp only [Result.andThen_ok, hl, e1, Sem.run_pure]
      · cases hv
  · rename_i n e hun
    split at hv
    · rename_i es hes
      unfold aggO at hv
      split at hv
      · rename_i out ho
        simp only [Option.some.injEq] at hv
        subst hv
        obtain ⟨arr', e1, e2, e3⟩ := fill_rel (place' := fun i => some (i * es, es)) (fun i p hpl => hpl) hp hzc (lLen_eq _).symm ho
        refine sim_pure (b := .agg arr') (fun w => ?_) fun ρ hg => by simp only [VRel]; exact ⟨arr'.toList, by simp, e2.mono hg⟩
        simp [Instr.build, hu, run_underlying hun, szOf_run hes, hl, e1]
      · cases hv
    · cases hv
  · cases hv

theorem lRep_get (zs : List V) : ∀ (n i : Nat), i < n * zs.length → (lRep zs n)[i]? = zs[i % zs.length]?
  | 0, i, h => by omega
  | n + 1, i, h => by
    rw [lRep_succ]
    have e : (n + 1) * zs.length = n * zs.length + zs.length := Nat.succ_mul _ _
    by_cases hi : i < zs.length
    · rw [List.getElem?_append_left hi, Nat.mod_eq_of_lt hi]
    · rw [List.getElem?_append_right (by omega), lRep_get zs n _ (by omega), ← Nat.mod_eq_sub_mod (by omega)]

theorem rep_rel {zs : List V} {arr : Array Value} (h : VsRel ρ zs arr.toList) (n : Nat) : VsRel ρ (lRep zs n) (madeCells arr (n * arr.size)).toList := by
  have hl : arr.size = zs.length := by have := h.length; simpa using this
  refine VsRel.of_get ?_ fun i x v hx hv => ?_
  · simp [madeCells, lRep_length, hl]
  · have hi : i < n * zs.length := by have := (List.getElem?_eq_some_iff.1 hx).1; rw [lRep_length] at this; exact this
    rw [lRep_get _ _ _ hi] at hx
    obtain ⟨u, hu, hr⟩ := h.get _ x hx
    have hlt : i % arr.size < arr.size := by rw [hl]; exact Nat.mod_lt _ (by cases hz : zs.length with | zero => rw [hz] at hi; omega | succ k => omega)
    have : (madeCells arr (n * arr.size)).toList[i]? = some (arr[i % arr.size]!) := by
      rw [show (madeCells arr (n * arr.size)).toList = (List.range (n * arr.size)).map (fun k => arr[k % arr.size]!) from by simp [madeCells]]
      rw [List.getElem?_map, List.getElem?_range (by rw [hl]; exact hi)]
      rfl
    rw [this] at hv
    simp only [Option.some.injEq] at hv
    subst hv
    rw [← hl] at hu
    rw [getElem!_pos arr _ hlt]
    rw [Array.getElem?_toList, Array.getElem?_eq_getElem hlt] at hu
    simp only [Option.some.injEq] at hu
    subst hu
    exact hr

theorem sim_opBuildSlice (hA : ARel ρ0 a act) {t : TypeId} {len : Nat} {parts : Array (Nat × Operand)} : SimV P base ρ0 (opBuildSlice P a t len parts) (Instr.buildSlice t len (parts.map fun (i, x) => (i, act.eval x))) := by
  unfold opBuildSlice
  refine sim_opt fun ps hps => sim_opt fun e he => sim_opt fun n hn => sim_opt fun z hz => sim_opt fun cs hcs => ?_
  have hp := evalPairs_rel hA hps
  obtain ⟨u, hu, hr⟩ := zeroV_run hz
  have hzc := (hr ρ0).cells
  have hl : (parts.map fun (i, x) => (i, act.eval x)).toList = parts.toList.map fun (i, x) => (i, act.eval x) := by simp
  unfold bsCells at hcs
  cases hb : and (Nat.beq (lLen z.cells) n) (and (Nat.blt 0 n) (Nat.blt (Nat.mul len n) 1048576)) with
  | false => rw [hb] at hcs; cases hcs
  | true =>
    rw [hb] at hcs
    simp only [cond_true] at hcs
    rw [Bool.and_eq_true, Bool.and_eq_true] at hb
    have h1 : z.cells.length = n := by have := Nat.eq_of_beq_eq_true hb.1; rw [lLen_eq] at this; exact this
    have h2 : 0 < n := by simpa [Nat.blt_eq] using hb.2.1
    have h3 : len * n < 1048576 := by simpa [Nat.blt_eq] using hb.2.2
    have hsz : u.cells.size = n := by have := hzc.length; simp at this; omega
    have hrep := rep_rel hzc len
    rw [hsz] at hrep
    obtain ⟨arr', e1, e2, e3⟩ := fill_rel (place' := fun i => some (i * n, n)) (fun i p hpl => hpl) hp hrep (by rw [lRep_length, h1]; rfl) hcs
    have hasz : arr'.toList.length = cs.length := e2.length
    refine sim_run (s' := newRow e arr' >>= fun a => pure (.slice (some a) len len)) (fun w => ?_) ?_
    · have hbig : ¬ len * n > 2 ^ 24 := by omega
      simp only [Instr.buildSlice, Sem.run_bind, run_underlying (elemT_und he), Result.andThen_ok, szOf_run hn, hbig, if_false]
      by_cases hz0 : len * n = 0
      · have hmade : (Array.range (len * n)).map ((#[] : Array Value)[· % (#[] : Array Value).size]!) = madeCells u.cells (len * n) := by simp [hz0, madeCells, Array.range_zero']
        rw [if_pos hz0]
        simp only [Sem.run_bind, Sem.run_pure, Result.andThen_ok, hmade, hl, e1]
      · rw [if_neg hz0]
        simp only [Sem.run_bind, Sem.run_pure, Result.andThen_ok, hu, show (Array.range (len * n)).map (u.cells[· % u.cells.size]!) = madeCells u.cells (len * n) from rfl, hl, e1]
    · refine sim_bnd (good_newB _) (fun _ => good_ret _) (sim_newRow (l := arr'.toList) e2 rfl (by rw [hasz]; exact e3.symm)) ?_
      rintro ρ1 x ad hg ⟨blk, rfl, hx⟩
      refine sim_ret fun ρ hg' => ?_
      simp only [VRel]
      exact ⟨blk, _, len, hg' _ _ hx, rfl, rfl⟩

theorem sim_mkSlice {e : TypeId} {sz : Nat} {z : V} {l c : Nat} {t : TypeId} {kl kc : IntKind} (he : elemT P t = some e) (hs : szOf P e = some sz) (hz : zeroV P e = some z) (hby : bytesOk P e c = true) :
    SimV P base ρ0 (mkSlice e sz z l c) (Instr.makeSlice t (.int kl (l : Int)) (.int kc (c : Int))) := by
  unfold mkSlice
  refine sim_cond (fun hb => ?_) fun _ => sim_no
  rw [Bool.and_eq_true, Bool.and_eq_true, Bool.and_eq_true] at hb
  have h1 : l ≤ c := Nat.le_of_ble_eq_true hb.1
  have h2 : z.cells.length = sz := by have := Nat.eq_of_beq_eq_true hb.2.1; rw [lLen_eq] at this; exact this
  have h3 : 0 < sz := by simpa [Nat.blt_eq] using hb.2.2.1
  have h4 : c * sz < 1048576 := by simpa [Nat.blt_eq] using hb.2.2.2
  have h5 : c ≤ c * sz := Nat.le_mul_of_pos_right _ h3
  obtain ⟨i, hi, his⟩ := szOf_info hs
  have hz' : ∃ u, i.zero = some u ∧ ofValue u = some z := by
    unfold zeroV at hz
    rw [hi] at hz
    simp only at hz
    split at hz
    · rename_i u hu; exact ⟨u, hu, hz⟩
    · cases hz
  obtain ⟨u, hu1, hu2⟩ := hz'
  have hur : VRel ρ0 z u := ofValue_rel u hu2
  have hbytes : (i.bytes : Int) * (c : Int) ≤ 281474976710656 := by
    unfold bytesOk at hby
    rw [hi] at hby
    have hle : i.bytes * c ≤ 1073741824 := Nat.le_of_ble_eq_true hby
    have h : ((i.bytes * c : Nat) : Int) ≤ 281474976710656 := by omega
    rwa [Int.natCast_mul] at h
  have hrep := rep_rel hur.cells c
  have husz : u.cells.size = sz := by have := hur.cells.length; simp at this; omega
  rw [husz] at hrep
  refine sim_run (s' := newRow e (madeCells u.cells (c * sz)) >>= fun a => pure (.slice (some a) l c)) (fun w => ?_) ?_
  · rw [run_make (P := P) w t e i u (elemT_und he) hi hu1 kl kc l c (by omega) (by omega) hbytes (by omega)]
    simp [newRow, his]
  · refine sim_bnd (good_newB _) (fun _ => good_ret _) (sim_newRow (l := (madeCells u.cells (c * sz)).toList) hrep rfl (by simp [madeCells])) ?_
    rintro ρ1 x ad hg ⟨blk, rfl, hx⟩
    refine sim_ret fun ρ hg' => ?_
    simp only [VRel]
    exact ⟨blk, _, c, hg' _ _ hx, rfl, rfl⟩

theorem sim_opMakeSlice (hA : ARel ρ0 a act) {t : TypeId} {l c : Operand} : SimV P base ρ0 (opMakeSlice P a t l c) (Instr.makeSlice t (act.eval l) (act.eval c)) := by
  unfold opMakeSlice evM
  refine sim_opt fun e he => sim_opt fun sz hs => sim_opt fun z hz => sim_opt fun lv hlv => sim_opt fun cv hcv => sim_opt fun ln hln => sim_opt fun cn hcn => ?_
  simp only [force_eq]
  refine sim_cond (fun hb => ?_) fun _ => sim_no
  obtain ⟨kl, hkl⟩ := asNat_rel hln (eval_rel hA hlv)
  obtain ⟨kc, hkc⟩ := asNat_rel hcn (eval_rel hA hcv)
  rw [hkl, hkc]
  exact sim_mkSlice he hs hz hb

theorem sim_opMakeMap {t : TypeId} : SimV P base ρ0 opMakeMap (Instr.makeMap t none) := by
  unfold opMakeMap
  refine sim_run (s' := newObj (.map #[] 0) >>= fun a => pure (.map (some a))) (fun w => by simp [Instr.makeMap]) ?_
  intro st x st' hm ρ w he hr hf
  obtain ⟨n, s1, h1, h2⟩ := bnd_ok hm
  obtain ⟨rfl, rfl⟩ := ret_ok h2
  obtain ⟨rfl, hh, hn'⟩ := newB_ok h1
  have hfree : ρ st.n = none := hf st.n (Nat.le_refl _) (by omega)
  refine ⟨.map (some w.heap.size), { w with heap := w.heap.push (.map #[] 0) }, putR ρ st.n (w.heap.size, 0), by simp only [newObj, Sem.run_bind]; rfl, by simp only [VRel]; exact ⟨w.heap.size, 0, putR_same, rfl⟩, ?_⟩
  rw [hh, hn']
  refine out_push hr hfree rfl rfl rfl rfl ?_
  exact ⟨w.heap.size, 0, #[], 0, putR_same, Array.getElem?_push_size, rfl, hr.base⟩
end Go.Ev
