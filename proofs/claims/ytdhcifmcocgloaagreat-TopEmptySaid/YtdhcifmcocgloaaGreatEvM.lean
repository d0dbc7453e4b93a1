/- Operations side by side (4): conversions. -/
import Derived.Test.YtdhcifmcocgloaaGreatEvL
import Derived.Laws.BytesString
import Derived.Laws.LoneSync
import Derived.Laws.AppendOwn
set_option linter.unusedSimpArgs false
set_option linter.unusedVariables false
namespace Go.Ev
open Go.RowKit (Below)
variable {P : Program} {base : Nat} {ρ0 ρ : Rho} {a : A} {act : Act}

theorem hasU_ok {t : TypeId} (h : hasU P t = true) : ∃ d, P.underlying t = some d := by
  unfold hasU at h
  split at h
  · rename_i d hd; exact ⟨d, hd⟩
  · cases h
theorem isByteT_ok {e : TypeId} (h : isByteT P e = true) : P.underlying e = some (.int .u8) := by
  unfold isByteT at h
  split at h
  · rename_i k hk; rw [hk, kBeq_eq.1 h]
  · cases h

theorem asByte_ok {v : V} {m : Nat} (h : asByte v = some m) : v = .int .u8 (m : Int) ∧ m < 256 := by
  unfold asByte at h
  split at h
  · rename_i k n
    split at h
    · rename_i m'
      cases hk : kBeq k .u8 with
      | false => rw [hk] at h; cases h
      | true =>
        rw [hk] at h
        simp only [cond_true] at h
        cases hm : Nat.blt m' 256 with
        | false => rw [hm] at h; cases h
        | true =>
          rw [hm] at h
          simp only [cond_true, Option.some.injEq] at h
          subst h
          have := kBeq_eq.1 hk
          subst this
          exact ⟨rfl, by simpa [Nat.blt_eq] using hm⟩
    · cases h
  · cases h
theorem asBytes_rel : ∀ {cs : List V} {bs : List Nat} {l : List Value}, asBytes cs = some bs → VsRel ρ cs l → l = (bs.map (fun n : Nat => (n : Int))).map (Value.int .u8) ∧ ∀ m ∈ bs, m < 256
  | [], bs, l, h, hv => by
    simp only [asBytes, Option.some.injEq] at h
    subst h
    simp only [VsRel] at hv
    subst hv
    exact ⟨rfl, by simp⟩
  | v :: vs, bs, l, h, hv => by
    simp only [asBytes] at h
    simp only [VsRel] at hv
    obtain ⟨u, r, rfl, hu, hr⟩ := hv
    split at h
    · cases h
    · rename_i x hx
      split at h
      · cases h
      · rename_i xs hxs
        simp only [Option.some.injEq] at h
        subst h
        obtain ⟨rfl, hlt⟩ := asByte_ok hx
        obtain ⟨rfl, h2⟩ := asBytes_rel hxs hr
        simp only [VRel] at hu
        subst hu
        exact ⟨rfl, by intro m hm; cases hm with
          | head => exact hlt
          | tail _ hm => exact h2 m hm⟩

theorem push_bytes : ∀ (ns : List Nat) (s : ByteArray), (∀ m ∈ ns, m < 256) →
    (((ns.map (fun n : Nat => (n : Int))).foldl (fun r n => r.push (UInt8.ofNat n.toNat)) s).data.toList.map (·.toNat)) = s.data.toList.map (·.toNat) ++ ns
  | [], s, _ => by simp
  | n :: ns, s, h => by
    rw [List.map_cons, List.foldl_cons, push_bytes ns _ (fun m hm => h m (List.mem_cons_of_mem _ hm))]
    have h1 : n < 256 := h n (List.mem_cons_self ..)
    have e : (s.push (UInt8.ofNat (n : Int).toNat)).data = s.data.push (UInt8.ofNat n) := rfl
    rw [e]
    simp [Nat.mod_eq_of_lt h1]

theorem push_bytes0 (ns : List Nat) (h : ∀ m ∈ ns, m < 256) : (((ns.map (fun n : Nat => (n : Int))).foldl (fun r n => r.push (UInt8.ofNat n.toNat)) ByteArray.empty).data.toList.map (·.toNat)) = ns := by
  rw [push_bytes ns _ h]
  rfl

theorem sim_toStr_sl {src d e : TypeId} {x blk sz off len c : Nat} (hs : P.underlying src = some (.slice e)) (he : P.underlying e = some (.int .u8)) (hd : P.underlying d = some .string) (hρ : ρ0 x = some (blk, sz)) :
    SimV P base ρ0 (bnd (loadCellsB x off len) fun cs => bnd (opt 24 (asBytes cs)) fun bs => ret (.str bs)) (convert src d (.slice (some ⟨blk, off, none⟩) len c)) := by
  refine sim_run (fun w => run_convert_bytes_string w src d e _ len c hs he hd) ?_
  intro st v st' h ρ w hg hr hf
  obtain ⟨cs, s1, h1, h2⟩ := bnd_ok h
  obtain ⟨bs, s2, h3, h4⟩ := bnd_ok h2
  obtain ⟨hb, rfl⟩ := opt_ok h3
  obtain ⟨rfl, rfl⟩ := ret_ok h4
  obtain ⟨t, n, cs0, ro, hx, hle, rfl, hh, hn⟩ := loadCellsB_ok h1
  obtain ⟨vs, hl, hv, hcell⟩ := cells_read (hr.blk x _ hx) (hg _ _ hρ) hle
  obtain ⟨e2, h256⟩ := asBytes_rel hb hv
  have hrun := run_loadCells_list (P := P) w ⟨blk, off, none⟩ vs hcell
  rw [hl, e2] at hrun
  refine ⟨_, w, ρ, run_bytesToString w _ len c _ hrun, ?_, by rw [hh, hn]; exact Out.refl hr⟩
  simp only [VRel]
  exact ⟨_, rfl, push_bytes0 bs h256⟩

theorem modify_push {α : Type} (xs : Array α) (o : α) (f : α → α) : (xs.push o).modify xs.size f = xs.push (f o) := by
  apply Array.ext
  · simp
  · intro i h1 h2
    rw [Array.getElem_modify]
    simp only [Array.size_push] at h2
    by_cases e : xs.size = i
    · subst e; simp
    · rw [if_neg e, Array.getElem_push_lt (by omega), Array.getElem_push_lt (by omega)]

theorem bytes_rel : ∀ (l : List UInt8), VsRel ρ (l.map (byteV ∘ (·.toNat))) (l.map (fun b : UInt8 => Value.int .u8 b.toNat))
  | [] => VsRel.nil
  | b :: l => VsRel.cons (by simp only [Function.comp, byteV, VRel]; rfl) (bytes_rel l)

theorem sim_strBytes {src d e : TypeId} {s : List Nat} {b : ByteArray} (hs : hasU P src = true) (hd : P.underlying d = some (.slice e)) (he : P.underlying e = some (.int .u8)) (hb : b.data.toList.map (·.toNat) = s) :
    SimV P base ρ0 (bnd (newCells e (lMap byteV s) true) fun b => ret (.sl b 0 (lLen s) (.open_ 1))) (convert src d (.string b)) := by
  obtain ⟨ds, hds⟩ := hasU_ok hs
  intro st v st' h ρ w hg hr hf
  obtain ⟨x, s1, h1, h2⟩ := bnd_ok h
  obtain ⟨rfl, rfl⟩ := ret_ok h2
  unfold newCells at h1
  obtain ⟨rfl, hh, hn'⟩ := newB_ok h1
  have hfree : ρ st.n = none := hf st.n (Nat.le_refl _) (by omega)
  have hsz : lLen s = b.size := by rw [lLen_eq, ← hb, List.length_map, Array.length_toList]; rfl
  have hge := grownCap_ge w b.size 0 e
  generalize hc : grownCap w b.size 0 e = c at hge
  have hc' : (Question.appendCap b.size 0 e).cut (w.tape w.drawn (.appendCap b.size 0 e)) = c := hc
  generalize hel : (b.data.map fun b => Value.int .u8 b.toNat) ++ Array.replicate (c - b.size) (.int .u8 0) = arr
  have hasz : arr.size = c := by
    rw [← hel]
    have : b.data.size = b.size := rfl
    simp [this]
    omega
  refine ⟨.slice (some ⟨w.heap.size, 0, none⟩) b.size c, { w with drawn := w.drawn + 1, heap := w.heap.push (.cells arr e (c, c + 1)) }, putR ρ st.n (w.heap.size, c), ?_, ?_, ?_⟩
  · have hconv : (convert src d (.string b)).run P w = (Conv.stringToBytes e b).run P w := by
      simp only [convert, Sem.run_bind, run_underlying hds, run_underlying hd, Result.andThen_ok]
      cases ds <;> simp only [Sem.run_bind, run_underlying he, Result.andThen_ok]
    rw [hconv]
    simp only [Conv.stringToBytes, Sem.run_bind, run_choose, Question.forced, Bool.false_eq_true, if_false, Result.andThen_ok, hc', hel, newRow, run_newObj, Sem.run_pure, markStringish, run_shape]
    have hshape : ({ w with drawn := w.drawn + 1, heap := w.heap.push (.cells arr e) } : World).shape? w.heap.size = some (e, arr.size) := by
      simp [World.shape?]
    rw [hshape]
    simp only [run_freeze, Result.andThen_ok, World.freeze, modify_push, hasz]
    simp
  · simp only [VRel]
    refine ⟨w.heap.size, c, c, putR_same, by rw [hsz], ?_, ?_⟩
    · show 0 + c * 1 = c; omega
    · rw [hsz]; exact hge
  · rw [hh, hn']
    refine out_push hr hfree rfl rfl rfl rfl ?_
    refine ⟨(lLen_eq _).symm, w.heap.size, c, arr, (c, c + 1), ?_⟩
    refine ⟨putR_same, Array.getElem?_push_size, hasz, ?_, ?_, fun h => by cases h⟩
    · rw [lLen_eq, lMap_eq, List.length_map, ← lLen_eq, hsz]; exact hge
    · have e1 : lLen (lMap byteV s) = b.size := by rw [lLen_eq, lMap_eq, List.length_map, ← lLen_eq, hsz]
      rw [e1, ← hel]
      have e2 : (Array.map (fun b : UInt8 => Value.int .u8 b.toNat) b.data ++ Array.replicate (c - b.size) (Value.int .u8 0)).toList.take b.size = b.data.toList.map (fun b : UInt8 => Value.int .u8 b.toNat) := by
        rw [Array.toList_append, List.take_append_of_le_length (by rw [Array.length_toList, Array.size_map]; exact Nat.le_refl _)]
        rw [List.take_of_length_le (by rw [Array.length_toList, Array.size_map]; exact Nat.le_refl _)]
        simp
      rw [e2, lMap_eq, ← hb, List.map_map]
      exact bytes_rel b.data.toList

theorem depth_pos : ∃ d, P.depth = d + 1 := ⟨2 * (P.types.size + Made.depth) + 1, rfl⟩
theorem seenAs_run {u t : TypeId} {n x blk sz : Nat} {cs : List V} {ro : Bool} {w : World} (hs : seenAs P u (.cells t n cs ro) = true) (hb : BRel ρ base w x (.cells t n cs ro)) (hρ : ρ x = some (blk, sz)) :
    (variablesAt ⟨blk, 0, none⟩ u 1).run P w = .ok true w := by
  unfold seenAs at hs
  simp only at hs
  split at hs
  · rename_i k hk
    rw [Bool.and_eq_true, Bool.and_eq_true] at hs
    have h1 : P.underlyingId t = P.underlyingId u := Nat.eq_of_beq_eq_true hs.1
    have h2 : 0 < k := by simpa [Nat.blt_eq] using hs.2.1
    have h3 : k ≤ n := Nat.le_of_ble_eq_true hs.2.2
    obtain ⟨_, blk', sz', arr, fz, k2, k3, k4, k5, _, _⟩ := hb
    rw [hρ] at k2
    cases k2
    obtain ⟨i, hi, hik⟩ := szOf_info hk
    have hc : P.cellsOf t = k := by simp [Program.cellsOf, hi, hik]
    have hsh : w.shape? blk = some (t, arr.size) := by simp [World.shape?, k3]
    obtain ⟨d, hd⟩ := depth_pos (P := P)
    have hsame : sameLayout P P.depth t u = true := by rw [hd]; simp [sameLayout, h1]
    have hcnt : 1 ≤ arr.size / k := (Nat.le_div_iff_mul_le h2).2 (by omega)
    have hrow : rowAt P (sameLayout P P.depth · u) P.depth t (arr.size / k) 0 1 = true := by
      rw [hd] at hsame ⊢
      have hk0 : ¬ k = 0 := by omega
      simp [rowAt, hc, hk0, hsame, hcnt]
    have hlies : liesAt P P.depth t (arr.size / k) 0 u 1 = true := by
      rw [hd] at hrow ⊢
      simp [liesAt]
      left
      rw [hd]
      exact hrow
    simp [variablesAt, hsh, hc, hlies]
  · cases hs

theorem sim_convPtr {src d : TypeId} {x off blk sz : Nat} (hρ : ρ0 x = some (blk, sz)) : SimV P base ρ0 (convPtr P src d x off) (convert src d (.pointer (some ⟨blk, off, none⟩))) := by
  unfold convPtr
  split
  · rename_i t hs
    split
    · rename_i hd
      intro st v st' h ρ w hg hr hf
      obtain ⟨cs, s1, h1, h2⟩ := bnd_ok h
      obtain ⟨t', n, cs0, ro, hx, hle, rfl, hh, hn⟩ := loadCellsB_ok h1
      obtain ⟨vs, hl, hv, hcell⟩ := cells_read (hr.blk x _ hx) (hg _ _ hρ) hle
      cases hk : szOf P t with
      | none => simp only [hk] at h2; exact (no_ok h2).elim
      | some k =>
        simp only [hk] at h2
        cases hz : Nat.beq k 0 with
        | true => rw [hz] at h2; simp only [cond_true] at h2; exact (no_ok h2).elim
        | false =>
          rw [hz] at h2
          simp only [cond_false] at h2
          obtain ⟨rfl, rfl⟩ := ret_ok h2
          obtain ⟨i, hi, hik⟩ := szOf_info hk
          have hk0 : ¬ i.size = 0 := fun e => by rw [hik] at e; subst e; cases hz
          match vs, hl with
          | [u], _ =>
            have hc := hcell 0 u (by simp)
            rw [Addr.add_zero'] at hc
            refine ⟨_, w, ρ, run_convert_to_unsafe hs hd (by rw [hi]; simp [hk0]) hc, ?_, by rw [hh, hn]; exact Out.refl hr⟩
            simp only [VRel]
            exact ⟨blk, sz, hg _ _ hρ, rfl⟩
    · exact sim_no
  · rename_i hs
    split
    · rename_i u hd
      split
      · rename_i k hk
        intro st v st' h ρ w hg hr hf
        obtain ⟨b, s1, h1, h2⟩ := bnd_ok h
        obtain ⟨hx, hh, hn⟩ := getB_ok h1
        cases hc : and (Nat.beq off 0) (seenAs P u b) with
        | false => rw [hc] at h2; simp only [cond_false] at h2; exact (no_ok h2).elim
        | true =>
          rw [hc] at h2
          simp only [cond_true] at h2
          obtain ⟨rfl, rfl⟩ := ret_ok h2
          rw [Bool.and_eq_true] at hc
          have h0 := Nat.eq_of_beq_eq_true hc.1
          subst h0
          cases b with
          | cells t n cs ro =>
            have hbr := hr.blk x _ hx
            have hvar := seenAs_run hc.2 hbr (hg _ _ hρ)
            obtain ⟨_, blk', sz', arr, fz, k2, k3, k4, k5, _, _⟩ := hbr
            rw [hg _ _ hρ] at k2
            cases k2
            have hsh : w.shape? blk = some (t, arr.size) := by simp [World.shape?, k3]
            refine ⟨.pointer (some ⟨blk, 0, none⟩), w, ρ, ?_, by simp only [VRel]; exact ⟨blk, sz, hg _ _ hρ, rfl⟩, by rw [hh, hn]; exact Out.refl hr⟩
            simp [convert, run_underlying hs, run_underlying hd, Conv.unsafePointer, Conv.seenAt, viewAt, hsh, szOf_run hk, hvar]
          | map es => cases hc.2
          | dead => cases hc.2
      · exact sim_no
    · exact sim_no
  · exact sim_no

theorem sim_convNil {src d : TypeId} : SimV P base ρ0 (convNil P src d) (convert src d (.pointer none)) := by
  unfold convNil
  split
  · rename_i t hs
    split
    · rename_i hd
      exact sim_pure (b := .pointer none) (fun w => by simp [convert, run_underlying hs, run_underlying hd, Conv.unsafePointer]) fun ρ hg => by simp only [VRel]
    · exact sim_no
  · rename_i hs
    split
    · rename_i u hd
      exact sim_pure (b := .pointer none) (fun w => by simp [convert, run_underlying hs, run_underlying hd, Conv.unsafePointer]) fun ρ hg => by simp only [VRel]
    · exact sim_no
  · exact sim_no

theorem sim_opConv (hA : ARel ρ0 a act) {s d : TypeId} {x : Operand} : SimV P base ρ0 (opConv P a s d x) (convert s d (act.eval x)) := by
  unfold opConv evM
  refine sim_opt fun v hv => ?_
  have hr := eval_rel hA hv
  unfold convB
  split
  · rename_i k n
    simp only [VRel] at hr
    refine sim_cond (fun hu => ?_) fun _ => sim_no
    obtain ⟨ds, hds⟩ := hasU_ok hu
    unfold convInt
    split
    · rename_i k' hd
      rw [intV_eq, wrapI_eq]
      refine sim_optr fun u hu => ?_
      simp only [Option.some.injEq] at hu
      subst hu
      refine sim_pure (b := .int k' (k'.wrap n)) (fun w => ?_) fun ρ hg => by simp only [VRel]
      rw [hr]
      simp only [convert, Sem.run_bind, run_underlying hds, run_underlying hd, Result.andThen_ok]
      cases ds <;> rfl
    · exact sim_no
  · rename_i s
    simp only [VRel] at hr
    obtain ⟨b, h1, h2⟩ := hr
    rw [h1]
    refine sim_cond (fun hu => ?_) fun _ => sim_no
    unfold convStr
    split
    · rename_i hd
      obtain ⟨ds, hds⟩ := hasU_ok hu
      refine sim_pure (b := .string b) (fun w => ?_) fun ρ hg => by simp only [VRel]; exact ⟨b, rfl, h2⟩
      simp only [convert, Sem.run_bind, run_underlying hds, run_underlying hd, Result.andThen_ok]
      cases ds <;> rfl
    · rename_i e hd
      refine sim_cond (fun he => ?_) fun _ => sim_no
      exact sim_strBytes hu hd (isByteT_ok he) h2
    · exact sim_no
  · simp only [VRel] at hr
    rw [hr]
    unfold toStr
    split
    · rename_i e hs
      refine sim_cond (fun he => ?_) fun _ => sim_no
      split
      · rename_i hd
        intro st v st' h ρ w hg hrel hf
        obtain ⟨cs, s1, h1, h2⟩ := bnd_ok h
        obtain ⟨rfl, rfl⟩ := ret_ok h1
        obtain ⟨bs, s2, h3, h4⟩ := bnd_ok h2
        obtain ⟨hb, rfl⟩ := opt_ok h3
        obtain ⟨rfl, rfl⟩ := ret_ok h4
        simp only [asBytes, Option.some.injEq] at hb
        subst hb
        refine ⟨.string .empty, w, ρ, ?_, by simp only [VRel]; exact ⟨_, rfl, rfl⟩, Out.refl hrel⟩
        rw [run_convert_bytes_string w _ _ e _ _ _ hs (isByteT_ok he) hd]
        rfl
      · exact sim_no
    · exact sim_no
  · rename_i b off len cap
    simp only [VRel] at hr
    obtain ⟨blk, sz, c, h1, h2, h3⟩ := hr
    rw [h2]
    unfold toStr
    split
    · rename_i e hs
      refine sim_cond (fun he => ?_) fun _ => sim_no
      split
      · rename_i hd
        exact sim_toStr_sl hs (isByteT_ok he) hd h1
      · exact sim_no
    · exact sim_no
  · simp only [VRel] at hr
    obtain ⟨blk, sz, h1, h2⟩ := hr
    rw [h2]
    exact sim_convPtr h1
  · simp only [VRel] at hr
    rw [hr]
    exact sim_convNil
  · exact sim_no
end Go.Ev
