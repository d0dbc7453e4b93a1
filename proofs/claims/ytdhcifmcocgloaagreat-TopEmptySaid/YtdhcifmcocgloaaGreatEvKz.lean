/- known() returns true, whatever the memory; nothing that was there is touched. -/
import Derived.Test.YtdhcifmcocgloaaGreatEvKf
import Derived.Test.YtdhcifmcocgloaaGreatEvKg
set_option linter.unusedSimpArgs false
set_option linter.unusedVariables false
namespace Go.Ev
open Go.RowKit (Below)
variable {P : Program} {base : Nat}

theorem noCount_of (h : (P.funcs.all fun fn => !(fn.name == "runtime.NumGoroutine")) = true) : NoCount P := by
  intro f fn hf
  have h1 := Array.all_eq_true.1 h
  obtain ⟨hlt, hfn⟩ := Array.getElem?_eq_some_iff.1 hf
  have := h1 f hlt
  rw [hfn] at this
  simpa using this

theorem goods {m : FuncId} {f : List V → M V} (hg : ∀ args, Good (f args)) : ∀ g k, (cond (Nat.beq g m) (some f) none : Option (List V → M V)) = some k → ∀ args, Good (k args) := by
  intro g k h args
  cases hb : Nat.beq g m with
  | false => rw [hb] at h; cases h
  | true => rw [hb] at h; cases h; exact hg args
theorem callOks {m : FuncId} {f : List V → M V} (hc : CallOk P base m f) : ∀ g k, (cond (Nat.beq g m) (some f) none : Option (List V → M V)) = some k → CallOk P base g k := by
  intro g k h
  cases hb : Nat.beq g m with
  | false => rw [hb] at h; cases h
  | true => rw [hb] at h; cases h; rw [Nat.eq_of_beq_eq_true hb]; exact hc

/-- a function's body in one piece that ends in 'return', from an empty heap -/
theorem calls_of_seg {f : FuncId} {fn : Func} {l : List Code} {a' : A} {v : V} (hfn : P.funcs[f]? = some fn) (hb : fn.body = some (seqs l .ret)) {st st' : S} {args : List V}
    (hseg : SegOk P base l (begA fn args) st a' st') (hd : a'.d = []) (hv : ∃ s, results1 P fn a' ⟨st'.h, st'.n, 0, 0⟩ = .ok v s) {ρ : Rho} {w : World} {vs : List Value} (hvs : VsRel ρ args vs) (hr : Rel ρ base st.h w) (hf : Free ρ st st')
    {R : Ending → World → Prop} (hR : ∀ ρ' w' u, Out ρ base st.n st'.n st'.h w ρ' w' → VRel ρ' v u → R (.returned u) w') : Calls P f ⟨vs⟩ w R := by
  refine calls_of_wp_defers hfn hb (hseg.2 ρ w _ hr (begA_rel hvs) hf .ret _ fun ρ' w' act' o hA => wp_ret ?_)
  obtain ⟨s, hv⟩ := hv
  have hdf : act'.defers = [] := by
    have := hA.dfr
    rw [hd] at this
    exact this
  show Leaves P fn act'.tmps R act'.defers .returning w'
  rw [hdf]
  obtain ⟨g1, g2, r, g3, g4⟩ := results1_ok hA hv o.rel
  exact ⟨r, g3, hR ρ' w' r o g4⟩
end Go.Ev
namespace Go.Ev.K
open Go.Proofs Go.RowKit
theorem noCount : NoCount Tryz.prog := noCount_of (by kernel_rfl)
theorem orders : Tryz.prog.follows .mixedOrders = true := by kernel_rfl
theorem tabOk : ∀ e ∈ tab, EntOk Tryz.prog 222 5 100000 e := by
  intro e he
  simp only [tab, List.mem_cons, List.not_mem_nil, or_false] at he
  rcases he with rfl | rfl | rfl | rfl
  · exact entOk_of ent0_run
  · exact entOk_of ent1_run
  · exact entOk_of ent2_run
  · exact entOk_of ent3_run
theorem sfOk (base : Nat) : SelfOk Tryz.prog base 100000 sf :=
  evN_ok noCount orders (goods fun _ => good_addM) (callOks (addM_ok noCount orders tabOk)) 100000

theorem body_eq : body4 = seqs (part 0 5 ++ (part 5 1 ++ (part 6 3 ++ (part 9 1 ++ (part 10 1 ++ part 11 1))))) .ret := by kernel_rfl
theorem known_seg (base : Nat) : SegOk Tryz.prog base (part 0 5 ++ (part 5 1 ++ (part 6 3 ++ (part 9 1 ++ (part 10 1 ++ part 11 1))))) a0 s0 ⟨t6, [], sz6⟩ ⟨h6, n6, 0, 0⟩ :=
  (seg_chk (sfOk base) seg1).append ((seg_chk (sfOk base) seg2).append ((seg_chk (sfOk base) seg3).append ((seg_chk (sfOk base) seg4).append ((seg_chk (sfOk base) seg5).append (seg_chk (sfOk base) seg6)))))

theorem rel_nil (w : World) : Rel (fun _ => none) w.heap.size .nil w where
  blk x b h := by rw [Tr.get_nil] at h; cases h
  inj x y b c p s q t h := by rw [Tr.get_nil] at h; cases h
  lt _ _ _ h := by cases h
  base := Nat.le_refl _

theorem known_true (w : World) : Calls Tryz.prog 4 #[] w fun e w' => e = .returned (.bool true) ∧ Below w.heap.size w w' := by
  refine calls_of_seg (base := w.heap.size) (vs := []) (v := .bool true) Tryz.func4 (l := part 0 5 ++ (part 5 1 ++ (part 6 3 ++ (part 9 1 ++ (part 10 1 ++ part 11 1))))) ?_ (known_seg _) rfl ?_ VsRel.nil (rel_nil w) (fun _ _ _ => rfl) ?_
  · have h : Tryz.f4.body = some body4 := by kernel_rfl
    rw [h, body_eq]
  · exact chkV_ok (by kernel_rfl)
  · intro ρ' w' u o hu
    simp only [VRel] at hu
    exact ⟨by rw [hu], o.below⟩
end Go.Ev.K
