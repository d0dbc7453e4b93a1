/- Operations side by side (8): maps. -/
import Derived.Test.YtdhcifmcocgloaaGreatEvP
import Derived.MapKept
set_option linter.unusedSimpArgs false
set_option linter.unusedVariables false
namespace Go.Ev
open Go.RowKit (Below)
variable {P : Program} {base : Nat} {ρ0 ρ : Rho} {a : A} {act : Act}

/-- a key's kind is the type's -/
def KeyKind (d : TypeDesc) (v : V) : Prop := (∃ k n, d = .int k ∧ v = .int k n) ∨ d = .string ∧ ∃ s, v = .str s
theorem okKey_ok {t : TypeId} {v : V} (h : okKey P t v = true) : ∃ d, P.underlying t = some d ∧ KeyKind d v := by
  unfold okKey at h
  split at h
  · rename_i k hk
    split at h
    · exact ⟨_, hk, Or.inl ⟨k, _, rfl, by rw [kBeq_eq.1 h]⟩⟩
    · cases h
  · rename_i hk
    split at h
    · exact ⟨_, hk, Or.inr ⟨rfl, ⟨_, rfl⟩⟩⟩
    · cases h
  · cases h

theorem isKey_of {v : V} {u : Value} {d : TypeDesc} (hk : KeyKind d v) (hr : VRel ρ v u) : MapKept.IsKey d u := by
  rcases hk with ⟨k, n, rfl, rfl⟩ | ⟨rfl, ⟨s, rfl⟩⟩
  · simp only [VRel] at hr
    subst hr
    rfl
  · simp only [VRel] at hr
    obtain ⟨b, rfl, _⟩ := hr
    exact trivial

theorem bytes_eq {a b : ByteArray} : beqNats (a.data.toList.map (·.toNat)) (b.data.toList.map (·.toNat)) = (a == b) := by
  rw [bytes_beq, beq_toListBytes]

theorem keyEq_same {k a : V} {ku au : Value} {d : TypeDesc} {r : Bool} (hk : KeyKind d k) (h : keyEq k a = some r) (hkr : VRel ρ k ku) (har : VRel ρ a au) : Instr.sameNow d ku au = some r := by
  rcases hk with ⟨j, n, rfl, rfl⟩ | ⟨rfl, ⟨s, rfl⟩⟩
  · simp only [VRel] at hkr
    subst hkr
    unfold keyEq at h
    cases a with
    | int j' m =>
      simp only [VRel] at har
      subst har
      simp only at h
      cases hj : kBeq j j' with
      | false => rw [hj] at h; cases h
      | true =>
        rw [hj] at h
        simp only [cond_true, Option.some.injEq, beqInt_eq] at h
        subst h
        have := kBeq_eq.1 hj
        subst this
        simp [Instr.sameNow]
    | _ => cases h
  · simp only [VRel] at hkr
    obtain ⟨b, rfl, hb⟩ := hkr
    unfold keyEq at h
    cases a with
    | str s' =>
      simp only [VRel] at har
      obtain ⟨b', rfl, hb'⟩ := har
      simp only [Option.some.injEq] at h
      subst h
      rw [← hb, ← hb', bytes_eq]
      rfl
    | _ => cases h

theorem sameNow_eq {k : V} {ku au : Value} {d : TypeDesc} (hk : KeyKind d k) (hkr : VRel ρ k ku) (h : Instr.sameNow d ku au = some true) : au = ku := by
  rcases hk with ⟨j, n, rfl, rfl⟩ | ⟨rfl, ⟨s, rfl⟩⟩
  · simp only [VRel] at hkr
    subst hkr
    unfold Instr.sameNow at h
    cases au <;> simp at h
    obtain ⟨rfl, rfl⟩ := h
    rfl
  · simp only [VRel] at hkr
    obtain ⟨b, rfl, hb⟩ := hkr
    unfold Instr.sameNow at h
    cases au <;> simp at h
    rename_i b'
    rw [beq_toListBytes, beq_iff_eq, ByteArray.toList_eq, ByteArray.toList_eq] at h
    exact congrArg Value.string (ByteArray.ext (Array.ext' h)).symm

theorem findV_ok {k : V} {ku : Value} {d : TypeDesc} (hk : KeyKind d k) (hkr : VRel ρ k ku) : ∀ {es : List (V × V)} {l : List MapEntry} {o : Option V} (i : Nat), EsRel ρ es l → findV k es = some o →
    match o with
    | none => Instr.findNow d ku l i = some none
    | some v => ∃ j u, Instr.findNow d ku l i = some (some (j, u)) ∧ VRel ρ v u
  | [], _, o, i, he, h => by
    simp only [EsRel] at he
    subst he
    simp only [findV, Option.some.injEq] at h
    subst h
    rfl
  | (a, v) :: es, _, o, i, he, h => by
    obtain ⟨e, r, rfl, h1, h2, h3⟩ := he
    simp only [findV] at h
    split at h
    · cases h
    · rename_i b hb
      have hs := keyEq_same hk hb hkr h1
      cases b with
      | true =>
        simp only [cond_true, Option.some.injEq] at h
        subst h
        exact ⟨i, e.val, by simp [Instr.findNow, hs], h2⟩
      | false =>
        simp only [cond_false] at h
        have := findV_ok hk hkr (i + 1) h3 h
        cases o with
        | none => simpa [Instr.findNow, hs] using this
        | some z => simpa [Instr.findNow, hs] using this

theorem updV_ok {k v : V} {ku vu : Value} {d : TypeDesc} (hk : KeyKind d k) (hkr : VRel ρ k ku) (hvr : VRel ρ v vu) : ∀ {es es' : List (V × V)} {l : List MapEntry} (i : Nat), EsRel ρ es l → updV k v es = some es' →
    (Instr.findNow d ku l i = some none ∧ ∀ e : MapEntry, e.key = ku → e.val = vu → EsRel ρ es' (l ++ [e])) ∨
    (∃ j u e, Instr.findNow d ku l i = some (some (i + j, u)) ∧ l[j]? = some e ∧ e.key = ku ∧ EsRel ρ es' (l.modify j fun e => { e with key := ku, val := vu }))
  | [], es', _, i, he, h => by
    simp only [EsRel] at he
    subst he
    simp only [updV, Option.some.injEq] at h
    subst h
    refine Or.inl ⟨rfl, fun e h1 h2 => ?_⟩
    exact ⟨e, [], rfl, by rw [h1]; exact hkr, by rw [h2]; exact hvr, rfl⟩
  | (a, x) :: es, es', _, i, he, h => by
    obtain ⟨e, r, rfl, h1, h2, h3⟩ := he
    simp only [updV] at h
    split at h
    · cases h
    · rename_i b hb
      have hs := keyEq_same hk hb hkr h1
      cases b with
      | true =>
        simp only [cond_true, Option.some.injEq] at h
        subst h
        refine Or.inr ⟨0, e.val, e, by simp [Instr.findNow, hs], rfl, ?_, ?_⟩
        · exact sameNow_eq hk hkr hs
        · exact ⟨{ e with key := ku, val := vu }, r, by simp, hkr, hvr, h3⟩
      | false =>
        simp only [cond_false] at h
        split at h
        · rename_i l' hl'
          simp only [Option.some.injEq] at h
          subst h
          rcases updV_ok hk hkr hvr (i + 1) h3 hl' with ⟨f1, f2⟩ | ⟨j, u, e0, f1, f2, f3, f4⟩
          · refine Or.inl ⟨by simpa [Instr.findNow, hs] using f1, fun e' g1 g2 => ?_⟩
            exact ⟨e, r ++ [e'], rfl, h1, h2, f2 e' g1 g2⟩
          · refine Or.inr ⟨j + 1, u, e0, ?_, by simpa using f2, f3, ?_⟩
            · have : i + (j + 1) = i + 1 + j := by omega
              simpa [Instr.findNow, hs, this] using f1
            · exact ⟨e, r.modify j _, by simp, h1, h2, f4⟩
        · cases h

theorem mapEs_ok {x : V} {u : Value} {es : List (V × V)} {st st' : S} {w : World} (hx : VRel ρ x u) (hr : Rel ρ base st.h w) (hm : mapEs x st = .ok es st') :
    st'.h = st.h ∧ st'.n = st.n ∧ ((u = .map none ∧ es = []) ∨ ∃ blk arr clock, u = .map (some blk) ∧ w.heap[blk]? = some (.map arr clock) ∧ EsRel ρ es arr.toList) := by
  unfold mapEs at hm
  split at hm
  · simp only [VRel] at hx
    obtain ⟨rfl, rfl⟩ := ret_ok hm
    exact ⟨rfl, rfl, Or.inl ⟨hx, rfl⟩⟩
  · rename_i b
    simp only [VRel] at hx
    obtain ⟨blk, sz, hρ, rfl⟩ := hx
    obtain ⟨bb, s1, h1, h2⟩ := bnd_ok hm
    obtain ⟨hx, hh, hn⟩ := getB_ok h1
    cases bb with
    | map es0 =>
      obtain ⟨rfl, rfl⟩ := ret_ok (show (ret es0 : M _) s1 = .ok es st' from h2)
      obtain ⟨blk', sz', arr, clock, k2, k3, k4, k5⟩ := hr.blk b _ hx
      rw [hρ] at k2
      cases k2
      exact ⟨hh, hn, Or.inr ⟨blk, arr, clock, rfl, k3, k4⟩⟩
    | cells t n cs ro => exact (no_ok (show (no 73 : M _) s1 = .ok es st' from h2)).elim
    | dead => exact (no_ok (show (no 73 : M _) s1 = .ok es st' from h2)).elim
  · exact (no_ok hm).elim

theorem mapT_und {t : TypeId} {p : TypeId × TypeId} (h : mapT P t = some p) : P.underlying t = some (.map p.1 p.2) := by
  unfold mapT at h
  split at h
  · rename_i k e hu; simp only [Option.some.injEq] at h; subst h; exact hu
  · cases h

theorem sim_lookupB {t : TypeId} {x k : V} {ux uk : Value} {ok : Bool} (hx : VRel ρ0 x ux) (hk : VRel ρ0 k uk) : SimV P base ρ0 (lookupB P t x k ok) (Instr.lookup t ux uk ok) := by
  unfold lookupB
  refine sim_opt fun p hp => sim_cond (fun hok => ?_) fun _ => sim_no
  have hu := mapT_und hp
  obtain ⟨d, hd, hkk⟩ := okKey_ok hok
  intro st v st' hm ρ w hg hr hf
  obtain ⟨es, s1, h1, h2⟩ := bnd_ok hm
  obtain ⟨hh, hn, hcase⟩ := mapEs_ok (hx.mono hg) hr h1
  have hk1 := hk.mono hg
  have o1 : Out ρ base st.n s1.n s1.h w ρ w := by rw [hh, hn]; exact Out.refl hr
  have hcheck := fun (e : Bool) => MapKept.run_checkKey (P := P) (w := w) hd (isKey_of hkk hk1) e 9999
  have hgen : ∃ arr : Array MapEntry, EsRel ρ es arr.toList ∧ ∀ {o : Option (Nat × Value)}, Instr.findNow d uk arr.toList 0 = some o → (Instr.lookup t ux uk ok).run P w =
      match o with
        | some (_, v) => .ok (if ok then .tuple #[v, .bool true] else v) w
        | none => ((zeroValue p.2).run P w).andThen fun v w' => .ok (if ok then .tuple #[v, .bool false] else v) w' := by
    rcases hcase with ⟨rfl, rfl⟩ | ⟨blk, arr, clock, rfl, k3, k4⟩
    · refine ⟨#[], rfl, fun {o} ho => ?_⟩
      have hf := MapKept.run_findKey (P := P) (w := w) hd ho
      have hf' : (Instr.findKey p.1 uk []).run P w = .ok o w := hf
      cases o with
      | none => simp [Instr.lookup, run_underlying hu, hcheck, hf']
      | some q => simp [Instr.lookup, run_underlying hu, hcheck, hf']
    · refine ⟨arr, k4, fun {o} ho => ?_⟩
      have hf := MapKept.run_findKey (P := P) (w := w) hd ho
      cases o with
      | none => simp [Instr.lookup, run_underlying hu, MapKept.run_getObj_map k3, hcheck, hf]
      | some q => simp [Instr.lookup, run_underlying hu, MapKept.run_getObj_map k3, hcheck, hf]
  obtain ⟨arr, q1, hrun⟩ := hgen
  unfold lookIn at h2
  cases ho : findV k es with
  | none => rw [ho] at h2; exact (no_ok h2).elim
  | some o =>
    rw [ho] at h2
    have hfv := findV_ok hkk hk1 0 q1 ho
    cases o with
    | some z =>
      simp only at h2
      obtain ⟨rfl, rfl⟩ := ret_ok h2
      obtain ⟨j, u, hfn, hz⟩ := hfv
      refine ⟨if ok then .tuple #[u, .bool true] else u, w, ρ, by rw [hrun hfn], ?_, o1⟩
      cases ok with
      | true => simp only [tupOk, cond_true, if_true, VRel]; exact ⟨[u, .bool true], rfl, VsRel.cons hz (VsRel.cons (by simp only [VRel]) VsRel.nil)⟩
      | false => exact hz
    | none =>
      simp only at h2 hfv
      obtain ⟨z, s2, h3, h4⟩ := bnd_ok h2
      obtain ⟨hz, rfl⟩ := opt_ok h3
      obtain ⟨rfl, rfl⟩ := ret_ok h4
      obtain ⟨zu, hzu, hzr⟩ := zeroV_run hz
      refine ⟨if ok then .tuple #[zu, .bool false] else zu, w, ρ, ?_, ?_, o1⟩
      · rw [hrun hfv]
        simp only [hzu, Result.andThen_ok]
      · cases ok with
        | true => simp only [tupOk, cond_true, if_true, VRel]; exact ⟨[zu, .bool false], rfl, VsRel.cons (hzr _) (VsRel.cons (by simp only [VRel]) VsRel.nil)⟩
        | false => exact hzr _

theorem sim_mapUpdB {t : TypeId} {m k v : V} {um uk uv : Value} (hm : VRel ρ0 m um) (hk : VRel ρ0 k uk) (hv : VRel ρ0 v uv) : SimU P base ρ0 (mapUpdB P t m k v) (Instr.mapUpdate t um uk uv) := by
  unfold mapUpdB
  refine sim_opt fun p hp => sim_cond (fun hok => ?_) fun _ => sim_no
  have hu := mapT_und hp
  obtain ⟨d, hd, hkk⟩ := okKey_ok hok
  split
  · rename_i b
    simp only [VRel] at hm
    obtain ⟨blk, sz, hρ, rfl⟩ := hm
    intro st r st' hrun ρ w hg hr hf
    obtain ⟨bb, s1, h1, h2⟩ := bnd_ok hrun
    obtain ⟨hx, hh, hn⟩ := getB_ok h1
    cases bb with
    | map es0 =>
      obtain ⟨es, s2, h3, h4⟩ := bnd_ok h2
      obtain ⟨rfl, rfl⟩ := ret_ok (show (ret es0 : M _) s1 = .ok es s2 from h3)
      obtain ⟨es', s3, h5, h6⟩ := bnd_ok h4
      obtain ⟨hup, rfl⟩ := opt_ok h5
      obtain ⟨_, hh2, hn2⟩ := modB_ok h6
      obtain ⟨blk', sz', arr, clock, k2, k3, k4, k5⟩ := hr.blk b _ hx
      have k2' := k2
      rw [hg _ _ hρ] at k2
      cases k2
      have hk1 := hk.mono hg
      have hv1 := hv.mono hg
      have hcheck := MapKept.run_checkKey (P := P) (w := w) hd (isKey_of hkk hk1) false 9999
      have fin : ∀ (arr' : Array MapEntry) (clock' : Nat), EsRel ρ es' arr'.toList → (Instr.mapUpdate t (.map (some blk)) uk uv).run P w = .ok () { w with heap := w.heap.setIfInBounds blk (.map arr' clock') } →
          ∃ b w' ρ', (Instr.mapUpdate t (.map (some blk)) uk uv).run P w = .ok b w' ∧ True ∧ Out ρ base st.n st'.n st'.h w ρ' w' := by
        intro arr' clock' he hrun
        have hset := MapKept.heap_set (o' := .map arr' clock') k3
        refine ⟨(), _, ρ, hrun, trivial, ?_⟩
        rw [hh2, hn2, hh, hn]
        refine ⟨rel_mod hr hx rfl k2' (by simp) (fun k hk => hset.2 k hk) ?_, Grow.refl _, fun _ a b => absurd a b, ⟨rfl, rfl, rfl, by simp, fun k hk => hset.2 k (by omega)⟩⟩
        exact ⟨blk, sz, arr', clock', k2', hset.1, he, k5⟩
      rcases updV_ok hkk hk1 hv1 0 k4 hup with ⟨f1, f2⟩ | ⟨j, u, e, f1, f2, f3, f4⟩
      · refine fin (arr.push { key := uk, val := uv, born := clock }) (clock + 1) (by rw [Array.toList_push]; exact f2 _ rfl rfl) ?_
        simp [Instr.mapUpdate, run_underlying hu, MapKept.run_getObj_map k3, hcheck, MapKept.run_findKey hd f1, MapKept.run_setObj_map _ k3, Result.andThen]
      · have hj : arr[j]? = some e := by simpa using f2
        rw [Nat.zero_add] at f1
        refine fin (arr.modify j fun e => { e with key := uk, val := uv }) clock (by rw [Array.toList_modify]; exact f4) ?_
        simp [Instr.mapUpdate, run_underlying hu, MapKept.run_getObj_map k3, hcheck, MapKept.run_findKey hd f1, hj, f3, MapKept.run_keyThatStays (isKey_of hkk hk1), MapKept.run_setObj_map _ k3, Result.andThen]
    | cells t n cs ro => obtain ⟨es, s2, h3, h4⟩ := bnd_ok h2; exact (no_ok (show (no 73 : M _) s1 = .ok es s2 from h3)).elim
    | dead => obtain ⟨es, s2, h3, h4⟩ := bnd_ok h2; exact (no_ok (show (no 73 : M _) s1 = .ok es s2 from h3)).elim
  · exact sim_no
end Go.Ev
