/- Operations side by side (9): functions without a body. -/
import Derived.Test.YtdhcifmcocgloaaGreatEvQ
import Derived.KernelRfl
set_option linter.unusedSimpArgs false
set_option linter.unusedVariables false
namespace Go.Ev
open Go.RowKit (Below)
variable {P : Program} {base : Nat} {ρ0 ρ : Rho} {a : A} {act : Act}

/-! ### the tables -/
theorem find_of {fn : Func} {name : String} {E : Array Value → Sem Value} (hn : fn.name = name) (h1 : (Extern.allGenericRows.lookup name).isNone = true) (h2 : (Extern.allTypedRows.lookup name).isNone = true)
    (h3 : Extern.allRows.lookup name = some E) : Extern.find fn = some E := by
  have h1' : Extern.allGenericRows.lookup name = none := by simpa using h1
  have h2' : Extern.allTypedRows.lookup name = none := by simpa using h2
  unfold Extern.find
  rw [hn]
  simp only [h1', h2', h3]
  rfl
theorem next_of {fn : Func} {name : String} (hn : fn.name = name) (ho : fn.origin = "") (h : (Extern.allNextRows.lookup name).isNone = true) : Extern.findNext fn = none := by
  have h' : Extern.allNextRows.lookup name = none := by simpa using h
  have h0 : (Extern.allNextRows.lookup "").isNone = true := by kernel_rfl
  have h0' : Extern.allNextRows.lookup "" = none := by simpa using h0
  unfold Extern.findNext
  rw [hn, ho]
  simp only [h', h0']
  rfl

def EntryOk (e : Ext) (E : Array Value → Sem Value) : Prop := match e with
  | .load k => E = Extern.Atomic.loadT (.int k)
  | .loadp => E = Extern.Atomic.loadT .ptr
  | .store => E = Extern.Atomic.storeT
  | .cas k => E = Extern.Atomic.casT (.int k)
  | .add k => E = Extern.Atomic.update (Op.intArith .add) k true
  | .mark => ∃ m, E = Extern.Race.marked m
  | .mark0 => ∃ m, E = fun _ => do mark m; pure Extern.Race.none_
  | .cmp => E = Extern.BytealgCompare.compare

structure ExtOk (fn : Func) (e : Ext) : Prop where
  name : (fn.name == "runtime.NumGoroutine") = false
  next : Extern.findNext fn = none
  find : ∃ E, Extern.find fn = some E ∧ EntryOk e E

theorem row0 : Extern.allRows.lookup "sync/atomic.LoadUint32" = some (Extern.Atomic.loadT (.int .u32)) := by kernel_rfl
theorem gen0 : (Extern.allGenericRows.lookup "sync/atomic.LoadUint32").isNone = true := by kernel_rfl
theorem typ0 : (Extern.allTypedRows.lookup "sync/atomic.LoadUint32").isNone = true := by kernel_rfl
theorem nxt0 : (Extern.allNextRows.lookup "sync/atomic.LoadUint32").isNone = true := by kernel_rfl
theorem row1 : Extern.allRows.lookup "sync/atomic.LoadInt64" = some (Extern.Atomic.loadT (.int .i64)) := by kernel_rfl
theorem gen1 : (Extern.allGenericRows.lookup "sync/atomic.LoadInt64").isNone = true := by kernel_rfl
theorem typ1 : (Extern.allTypedRows.lookup "sync/atomic.LoadInt64").isNone = true := by kernel_rfl
theorem nxt1 : (Extern.allNextRows.lookup "sync/atomic.LoadInt64").isNone = true := by kernel_rfl
theorem row2 : Extern.allRows.lookup "sync/atomic.LoadPointer" = some (Extern.Atomic.loadT .ptr) := by kernel_rfl
theorem gen2 : (Extern.allGenericRows.lookup "sync/atomic.LoadPointer").isNone = true := by kernel_rfl
theorem typ2 : (Extern.allTypedRows.lookup "sync/atomic.LoadPointer").isNone = true := by kernel_rfl
theorem nxt2 : (Extern.allNextRows.lookup "sync/atomic.LoadPointer").isNone = true := by kernel_rfl
theorem row3 : Extern.allRows.lookup "sync/atomic.StoreUint32" = some (Extern.Atomic.storeT) := by kernel_rfl
theorem gen3 : (Extern.allGenericRows.lookup "sync/atomic.StoreUint32").isNone = true := by kernel_rfl
theorem typ3 : (Extern.allTypedRows.lookup "sync/atomic.StoreUint32").isNone = true := by kernel_rfl
theorem nxt3 : (Extern.allNextRows.lookup "sync/atomic.StoreUint32").isNone = true := by kernel_rfl
theorem row4 : Extern.allRows.lookup "sync/atomic.StoreInt64" = some (Extern.Atomic.storeT) := by kernel_rfl
theorem gen4 : (Extern.allGenericRows.lookup "sync/atomic.StoreInt64").isNone = true := by kernel_rfl
theorem typ4 : (Extern.allTypedRows.lookup "sync/atomic.StoreInt64").isNone = true := by kernel_rfl
theorem nxt4 : (Extern.allNextRows.lookup "sync/atomic.StoreInt64").isNone = true := by kernel_rfl
theorem row5 : Extern.allRows.lookup "sync/atomic.StorePointer" = some (Extern.Atomic.storeT) := by kernel_rfl
theorem gen5 : (Extern.allGenericRows.lookup "sync/atomic.StorePointer").isNone = true := by kernel_rfl
theorem typ5 : (Extern.allTypedRows.lookup "sync/atomic.StorePointer").isNone = true := by kernel_rfl
theorem nxt5 : (Extern.allNextRows.lookup "sync/atomic.StorePointer").isNone = true := by kernel_rfl
theorem row6 : Extern.allRows.lookup "sync/atomic.CompareAndSwapInt32" = some (Extern.Atomic.casT (.int .i32)) := by kernel_rfl
theorem gen6 : (Extern.allGenericRows.lookup "sync/atomic.CompareAndSwapInt32").isNone = true := by kernel_rfl
theorem typ6 : (Extern.allTypedRows.lookup "sync/atomic.CompareAndSwapInt32").isNone = true := by kernel_rfl
theorem nxt6 : (Extern.allNextRows.lookup "sync/atomic.CompareAndSwapInt32").isNone = true := by kernel_rfl
theorem row7 : Extern.allRows.lookup "sync/atomic.AddInt32" = some (Extern.Atomic.update (Op.intArith .add) .i32 true) := by kernel_rfl
theorem gen7 : (Extern.allGenericRows.lookup "sync/atomic.AddInt32").isNone = true := by kernel_rfl
theorem typ7 : (Extern.allTypedRows.lookup "sync/atomic.AddInt32").isNone = true := by kernel_rfl
theorem nxt7 : (Extern.allNextRows.lookup "sync/atomic.AddInt32").isNone = true := by kernel_rfl
theorem row8 : Extern.allRows.lookup "sync/atomic.AddInt64" = some (Extern.Atomic.update (Op.intArith .add) .i64 true) := by kernel_rfl
theorem gen8 : (Extern.allGenericRows.lookup "sync/atomic.AddInt64").isNone = true := by kernel_rfl
theorem typ8 : (Extern.allTypedRows.lookup "sync/atomic.AddInt64").isNone = true := by kernel_rfl
theorem nxt8 : (Extern.allNextRows.lookup "sync/atomic.AddInt64").isNone = true := by kernel_rfl
theorem row9 : Extern.allRows.lookup "internal/race.Acquire" = some (Extern.Race.marked .acquire) := by kernel_rfl
theorem gen9 : (Extern.allGenericRows.lookup "internal/race.Acquire").isNone = true := by kernel_rfl
theorem typ9 : (Extern.allTypedRows.lookup "internal/race.Acquire").isNone = true := by kernel_rfl
theorem nxt9 : (Extern.allNextRows.lookup "internal/race.Acquire").isNone = true := by kernel_rfl
theorem row10 : Extern.allRows.lookup "internal/race.ReleaseMerge" = some (Extern.Race.marked .releaseMerge) := by kernel_rfl
theorem gen10 : (Extern.allGenericRows.lookup "internal/race.ReleaseMerge").isNone = true := by kernel_rfl
theorem typ10 : (Extern.allTypedRows.lookup "internal/race.ReleaseMerge").isNone = true := by kernel_rfl
theorem nxt10 : (Extern.allNextRows.lookup "internal/race.ReleaseMerge").isNone = true := by kernel_rfl
theorem row11 : Extern.allRows.lookup "internal/race.Disable" = some (fun _ => do mark .disable; pure Extern.Race.none_) := by kernel_rfl
theorem gen11 : (Extern.allGenericRows.lookup "internal/race.Disable").isNone = true := by kernel_rfl
theorem typ11 : (Extern.allTypedRows.lookup "internal/race.Disable").isNone = true := by kernel_rfl
theorem nxt11 : (Extern.allNextRows.lookup "internal/race.Disable").isNone = true := by kernel_rfl
theorem row12 : Extern.allRows.lookup "internal/race.Enable" = some (fun _ => do mark .enable; pure Extern.Race.none_) := by kernel_rfl
theorem gen12 : (Extern.allGenericRows.lookup "internal/race.Enable").isNone = true := by kernel_rfl
theorem typ12 : (Extern.allTypedRows.lookup "internal/race.Enable").isNone = true := by kernel_rfl
theorem nxt12 : (Extern.allNextRows.lookup "internal/race.Enable").isNone = true := by kernel_rfl
theorem row13 : Extern.allRows.lookup "internal/bytealg.abigen_runtime_cmpstring" = some (Extern.BytealgCompare.compare) := by kernel_rfl
theorem gen13 : (Extern.allGenericRows.lookup "internal/bytealg.abigen_runtime_cmpstring").isNone = true := by kernel_rfl
theorem typ13 : (Extern.allTypedRows.lookup "internal/bytealg.abigen_runtime_cmpstring").isNone = true := by kernel_rfl
theorem nxt13 : (Extern.allNextRows.lookup "internal/bytealg.abigen_runtime_cmpstring").isNone = true := by kernel_rfl

theorem name_ne {s t : String} (h : s = t) (k : (t == "runtime.NumGoroutine") = false) : (s == "runtime.NumGoroutine") = false := by rw [h]; exact k

theorem extOf_ok {fn : Func} {e : Ext} (ho : fn.origin = "") (h : extOf fn.name = some e) : ExtOk fn e := by
  unfold extOf at h
  by_cases h0 : (fn.name == "sync/atomic.LoadUint32") = true
  · rw [if_pos h0] at h
    injection h with h
    subst h
    have hn' := eq_of_beq h0
    exact ⟨name_ne hn' (by decide), next_of hn' ho nxt0, _, find_of hn' gen0 typ0 row0, rfl⟩
  rw [if_neg h0] at h
  by_cases h1 : (fn.name == "sync/atomic.LoadInt64") = true
  · rw [if_pos h1] at h
    injection h with h
    subst h
    have hn' := eq_of_beq h1
    exact ⟨name_ne hn' (by decide), next_of hn' ho nxt1, _, find_of hn' gen1 typ1 row1, rfl⟩
  rw [if_neg h1] at h
  by_cases h2 : (fn.name == "sync/atomic.LoadPointer") = true
  · rw [if_pos h2] at h
    injection h with h
    subst h
    have hn' := eq_of_beq h2
    exact ⟨name_ne hn' (by decide), next_of hn' ho nxt2, _, find_of hn' gen2 typ2 row2, rfl⟩
  rw [if_neg h2] at h
  by_cases h3 : (fn.name == "sync/atomic.StoreUint32") = true
  · rw [if_pos h3] at h
    injection h with h
    subst h
    have hn' := eq_of_beq h3
    exact ⟨name_ne hn' (by decide), next_of hn' ho nxt3, _, find_of hn' gen3 typ3 row3, rfl⟩
  rw [if_neg h3] at h
  by_cases h4 : (fn.name == "sync/atomic.StoreInt64") = true
  · rw [if_pos h4] at h
    injection h with h
    subst h
    have hn' := eq_of_beq h4
    exact ⟨name_ne hn' (by decide), next_of hn' ho nxt4, _, find_of hn' gen4 typ4 row4, rfl⟩
  rw [if_neg h4] at h
  by_cases h5 : (fn.name == "sync/atomic.StorePointer") = true
  · rw [if_pos h5] at h
    injection h with h
    subst h
    have hn' := eq_of_beq h5
    exact ⟨name_ne hn' (by decide), next_of hn' ho nxt5, _, find_of hn' gen5 typ5 row5, rfl⟩
  rw [if_neg h5] at h
  by_cases h6 : (fn.name == "sync/atomic.CompareAndSwapInt32") = true
  · rw [if_pos h6] at h
    injection h with h
    subst h
    have hn' := eq_of_beq h6
    exact ⟨name_ne hn' (by decide), next_of hn' ho nxt6, _, find_of hn' gen6 typ6 row6, rfl⟩
  rw [if_neg h6] at h
  by_cases h7 : (fn.name == "sync/atomic.AddInt32") = true
  · rw [if_pos h7] at h
    injection h with h
    subst h
    have hn' := eq_of_beq h7
    exact ⟨name_ne hn' (by decide), next_of hn' ho nxt7, _, find_of hn' gen7 typ7 row7, rfl⟩
  rw [if_neg h7] at h
  by_cases h8 : (fn.name == "sync/atomic.AddInt64") = true
  · rw [if_pos h8] at h
    injection h with h
    subst h
    have hn' := eq_of_beq h8
    exact ⟨name_ne hn' (by decide), next_of hn' ho nxt8, _, find_of hn' gen8 typ8 row8, rfl⟩
  rw [if_neg h8] at h
  by_cases h9 : (fn.name == "internal/race.Acquire") = true
  · rw [if_pos h9] at h
    injection h with h
    subst h
    have hn' := eq_of_beq h9
    exact ⟨name_ne hn' (by decide), next_of hn' ho nxt9, _, find_of hn' gen9 typ9 row9, ⟨_, rfl⟩⟩
  rw [if_neg h9] at h
  by_cases h10 : (fn.name == "internal/race.ReleaseMerge") = true
  · rw [if_pos h10] at h
    injection h with h
    subst h
    have hn' := eq_of_beq h10
    exact ⟨name_ne hn' (by decide), next_of hn' ho nxt10, _, find_of hn' gen10 typ10 row10, ⟨_, rfl⟩⟩
  rw [if_neg h10] at h
  by_cases h11 : (fn.name == "internal/race.Disable") = true
  · rw [if_pos h11] at h
    injection h with h
    subst h
    have hn' := eq_of_beq h11
    exact ⟨name_ne hn' (by decide), next_of hn' ho nxt11, _, find_of hn' gen11 typ11 row11, ⟨_, rfl⟩⟩
  rw [if_neg h11] at h
  by_cases h12 : (fn.name == "internal/race.Enable") = true
  · rw [if_pos h12] at h
    injection h with h
    subst h
    have hn' := eq_of_beq h12
    exact ⟨name_ne hn' (by decide), next_of hn' ho nxt12, _, find_of hn' gen12 typ12 row12, ⟨_, rfl⟩⟩
  rw [if_neg h12] at h
  by_cases h13 : (fn.name == "internal/bytealg.abigen_runtime_cmpstring") = true
  · rw [if_pos h13] at h
    injection h with h
    subst h
    have hn' := eq_of_beq h13
    exact ⟨name_ne hn' (by decide), next_of hn' ho nxt13, _, find_of hn' gen13 typ13 row13, rfl⟩
  rw [if_neg h13] at h
  cases h
end Go.Ev
