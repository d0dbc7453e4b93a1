/- What each function of the evaluator touches. -/
import Derived.Test.YtdhcifmcocgloaaGreatEvB
set_option linter.unusedSimpArgs false
set_option linter.unusedVariables false
namespace Go.Ev
variable {P : Program}

theorem good_cutL {off k n : Nat} {cs : List V} : Good (cutL off k n cs) := by
  unfold cutL
  repeat' first | with_reducible exact good_ret _ | with_reducible exact good_no _ | with_reducible exact good_opt _ _ | with_reducible exact good_getB _ | with_reducible exact good_modB _ _ | with_reducible exact good_newB _ | assumption | with_reducible refine good_cond ?_ ?_ | (with_reducible refine good_bnd ?_ (fun _ => ?_)) | split

theorem good_bCells {off k : Nat} {b : B} : Good (bCells off k b) := by
  unfold bCells
  repeat' first | with_reducible exact good_ret _ | with_reducible exact good_no _ | with_reducible exact good_opt _ _ | with_reducible exact good_getB _ | with_reducible exact good_modB _ _ | with_reducible exact good_newB _ | assumption | with_reducible exact good_cutL | with_reducible refine good_cond ?_ ?_ | (with_reducible refine good_bnd ?_ (fun _ => ?_)) | split

theorem good_loadCellsB {x off k : Nat} : Good (loadCellsB x off k) := by
  unfold loadCellsB
  repeat' first | with_reducible exact good_ret _ | with_reducible exact good_no _ | with_reducible exact good_opt _ _ | with_reducible exact good_getB _ | with_reducible exact good_modB _ _ | with_reducible exact good_newB _ | assumption | with_reducible exact good_bCells | with_reducible refine good_cond ?_ ?_ | (with_reducible refine good_bnd ?_ (fun _ => ?_)) | split

theorem good_putCells {x off : Nat} {vs : List V} {b : B} : Good (putCells x off vs b) := by
  unfold putCells
  repeat' first | with_reducible exact good_ret _ | with_reducible exact good_no _ | with_reducible exact good_opt _ _ | with_reducible exact good_getB _ | with_reducible exact good_modB _ _ | with_reducible exact good_newB _ | assumption | with_reducible refine good_cond ?_ ?_ | (with_reducible refine good_bnd ?_ (fun _ => ?_)) | split

theorem good_storeCellsB {x off : Nat} {vs : List V} : Good (storeCellsB x off vs) := by
  unfold storeCellsB
  repeat' first | with_reducible exact good_ret _ | with_reducible exact good_no _ | with_reducible exact good_opt _ _ | with_reducible exact good_getB _ | with_reducible exact good_modB _ _ | with_reducible exact good_newB _ | assumption | with_reducible exact good_putCells | with_reducible refine good_cond ?_ ?_ | (with_reducible refine good_bnd ?_ (fun _ => ?_)) | split

theorem good_one1 {l : List V} : Good (one1 l) := by
  unfold one1
  repeat' first | with_reducible exact good_ret _ | with_reducible exact good_no _ | with_reducible exact good_opt _ _ | with_reducible exact good_getB _ | with_reducible exact good_modB _ _ | with_reducible exact good_newB _ | assumption | with_reducible refine good_cond ?_ ?_ | (with_reducible refine good_bnd ?_ (fun _ => ?_)) | split

theorem good_aggR {l : List V} : Good (aggR l) := by
  unfold aggR
  repeat' first | with_reducible exact good_ret _ | with_reducible exact good_no _ | with_reducible exact good_opt _ _ | with_reducible exact good_getB _ | with_reducible exact good_modB _ _ | with_reducible exact good_newB _ | assumption | with_reducible refine good_cond ?_ ?_ | (with_reducible refine good_bnd ?_ (fun _ => ?_)) | split

theorem good_loadVarB {t : TypeId} {x off : Nat} : Good (loadVarB P t x off) := by
  unfold loadVarB
  repeat' first | with_reducible exact good_ret _ | with_reducible exact good_no _ | with_reducible exact good_opt _ _ | with_reducible exact good_getB _ | with_reducible exact good_modB _ _ | with_reducible exact good_newB _ | assumption | with_reducible exact good_aggR | with_reducible exact good_one1 | with_reducible exact good_loadCellsB | with_reducible refine good_cond ?_ ?_ | (with_reducible refine good_bnd ?_ (fun _ => ?_)) | split

theorem good_storeVarB {t : TypeId} {x off : Nat} {v : V} : Good (storeVarB P t x off v) := by
  unfold storeVarB
  repeat' first | with_reducible exact good_ret _ | with_reducible exact good_no _ | with_reducible exact good_opt _ _ | with_reducible exact good_getB _ | with_reducible exact good_modB _ _ | with_reducible exact good_newB _ | assumption | with_reducible exact good_storeCellsB | with_reducible refine good_cond ?_ ?_ | (with_reducible refine good_bnd ?_ (fun _ => ?_)) | split

theorem good_newCells {t : TypeId} {cs : List V} {ro : Bool} : Good (newCells t cs ro) := by
  unfold newCells
  repeat' first | with_reducible exact good_ret _ | with_reducible exact good_no _ | with_reducible exact good_opt _ _ | with_reducible exact good_getB _ | with_reducible exact good_modB _ _ | with_reducible exact good_newB _ | assumption | with_reducible refine good_cond ?_ ?_ | (with_reducible refine good_bnd ?_ (fun _ => ?_)) | split

theorem good_newVarB {t : TypeId} {v : V} : Good (newVarB t v) := by
  unfold newVarB
  repeat' first | with_reducible exact good_ret _ | with_reducible exact good_no _ | with_reducible exact good_opt _ _ | with_reducible exact good_getB _ | with_reducible exact good_modB _ _ | with_reducible exact good_newB _ | assumption | with_reducible exact good_newCells | with_reducible refine good_cond ?_ ?_ | (with_reducible refine good_bnd ?_ (fun _ => ?_)) | split

theorem good_convInt {d : TypeId} {n : Int} : Good (convInt P d n) := by
  unfold convInt
  repeat' first | with_reducible exact good_ret _ | with_reducible exact good_no _ | with_reducible exact good_opt _ _ | with_reducible exact good_getB _ | with_reducible exact good_modB _ _ | with_reducible exact good_newB _ | assumption | with_reducible refine good_cond ?_ ?_ | (with_reducible refine good_bnd ?_ (fun _ => ?_)) | split

theorem good_convStr {d : TypeId} {s : List Nat} : Good (convStr P d s) := by
  unfold convStr
  repeat' first | with_reducible exact good_ret _ | with_reducible exact good_no _ | with_reducible exact good_opt _ _ | with_reducible exact good_getB _ | with_reducible exact good_modB _ _ | with_reducible exact good_newB _ | assumption | with_reducible exact good_newCells | with_reducible refine good_cond ?_ ?_ | (with_reducible refine good_bnd ?_ (fun _ => ?_)) | split

theorem good_toStr {src d : TypeId} {m : M (List V)} (hm : Good m) : Good (toStr P src d m) := by
  unfold toStr
  repeat' first | with_reducible exact good_ret _ | with_reducible exact good_no _ | with_reducible exact good_opt _ _ | with_reducible exact good_getB _ | with_reducible exact good_modB _ _ | with_reducible exact good_newB _ | assumption | with_reducible refine good_cond ?_ ?_ | (with_reducible refine good_bnd ?_ (fun _ => ?_)) | split

theorem good_convPtr {src d : TypeId} {b o : Nat} : Good (convPtr P src d b o) := by
  unfold convPtr
  repeat' first | with_reducible exact good_ret _ | with_reducible exact good_no _ | with_reducible exact good_opt _ _ | with_reducible exact good_getB _ | with_reducible exact good_modB _ _ | with_reducible exact good_newB _ | assumption | with_reducible exact good_loadCellsB | with_reducible refine good_cond ?_ ?_ | (with_reducible refine good_bnd ?_ (fun _ => ?_)) | split

theorem good_convNil {src d : TypeId} : Good (convNil P src d) := by
  unfold convNil
  repeat' first | with_reducible exact good_ret _ | with_reducible exact good_no _ | with_reducible exact good_opt _ _ | with_reducible exact good_getB _ | with_reducible exact good_modB _ _ | with_reducible exact good_newB _ | assumption | with_reducible refine good_cond ?_ ?_ | (with_reducible refine good_bnd ?_ (fun _ => ?_)) | split

theorem good_convB {src d : TypeId} {x : V} : Good (convB P src d x) := by
  unfold convB
  repeat' first | with_reducible exact good_ret _ | with_reducible exact good_no _ | with_reducible exact good_opt _ _ | with_reducible exact good_getB _ | with_reducible exact good_modB _ _ | with_reducible exact good_newB _ | assumption | with_reducible exact good_convNil | with_reducible exact good_convPtr | with_reducible refine good_toStr ?_ | with_reducible exact good_convStr | with_reducible exact good_convInt | with_reducible exact good_loadCellsB | with_reducible refine good_cond ?_ ?_ | (with_reducible refine good_bnd ?_ (fun _ => ?_)) | split

theorem good_srcCells {sz : Nat} {x : V} : Good (srcCells sz x) := by
  unfold srcCells
  repeat' first | with_reducible exact good_ret _ | with_reducible exact good_no _ | with_reducible exact good_opt _ _ | with_reducible exact good_getB _ | with_reducible exact good_modB _ _ | with_reducible exact good_newB _ | assumption | with_reducible exact good_loadCellsB | with_reducible refine good_cond ?_ ?_ | (with_reducible refine good_bnd ?_ (fun _ => ?_)) | split

theorem good_apNew {e : TypeId} {sz m : Nat} {c : List V} : Good (apNew P e sz m c) := by
  unfold apNew
  repeat' first | with_reducible exact good_ret _ | with_reducible exact good_no _ | with_reducible exact good_opt _ _ | with_reducible exact good_getB _ | with_reducible exact good_modB _ _ | with_reducible exact good_newB _ | assumption | with_reducible refine good_cond ?_ ?_ | (with_reducible refine good_bnd ?_ (fun _ => ?_)) | split

theorem good_apGrow1 {e : TypeId} {sz off len k : Nat} {cs c : List V} : Good (apGrow1 P e sz off len k cs c) := by
  unfold apGrow1
  repeat' first | with_reducible exact good_ret _ | with_reducible exact good_no _ | with_reducible exact good_opt _ _ | with_reducible exact good_getB _ | with_reducible exact good_modB _ _ | with_reducible exact good_newB _ | assumption | with_reducible refine good_cond ?_ ?_ | (with_reducible refine good_bnd ?_ (fun _ => ?_)) | split

theorem good_apGrow {e : TypeId} {sz off len m n : Nat} {cs c : List V} : Good (apGrow P e sz off len m n cs c) := by
  unfold apGrow
  simp only [force_eq]
  repeat' first | with_reducible exact good_ret _ | with_reducible exact good_no _ | with_reducible exact good_opt _ _ | with_reducible exact good_getB _ | with_reducible exact good_modB _ _ | with_reducible exact good_newB _ | assumption | with_reducible exact good_apGrow1 | with_reducible refine good_cond ?_ ?_ | (with_reducible refine good_bnd ?_ (fun _ => ?_)) | split

theorem good_apRoom {sz b off len m : Nat} {cap : Cap} {c : List V} : Good (apRoom sz b off len m cap c) := by
  unfold apRoom
  simp only [force_eq]
  repeat' first | with_reducible exact good_ret _ | with_reducible exact good_no _ | with_reducible exact good_opt _ _ | with_reducible exact good_getB _ | with_reducible exact good_modB _ _ | with_reducible exact good_newB _ | assumption | with_reducible exact good_storeCellsB | with_reducible refine good_cond ?_ ?_ | (with_reducible refine good_bnd ?_ (fun _ => ?_)) | split

theorem good_apMove {e : TypeId} {sz b off len m n : Nat} {cs c : List V} : Good (apMove P e sz b off len m n cs c) := by
  unfold apMove
  repeat' first | with_reducible exact good_ret _ | with_reducible exact good_no _ | with_reducible exact good_opt _ _ | with_reducible exact good_getB _ | with_reducible exact good_modB _ _ | with_reducible exact good_newB _ | assumption | with_reducible exact good_apGrow | with_reducible refine good_cond ?_ ?_ | (with_reducible refine good_bnd ?_ (fun _ => ?_)) | split

theorem good_apOpen {e : TypeId} {sz z b off len m : Nat} {c : List V} {x : B} : Good (apOpen P e sz z b off len m c x) := by
  unfold apOpen
  repeat' first | with_reducible exact good_ret _ | with_reducible exact good_no _ | with_reducible exact good_opt _ _ | with_reducible exact good_getB _ | with_reducible exact good_modB _ _ | with_reducible exact good_newB _ | assumption | with_reducible exact good_apMove | with_reducible exact good_apRoom | with_reducible refine good_cond ?_ ?_ | (with_reducible refine good_bnd ?_ (fun _ => ?_)) | split

theorem good_apExact {e : TypeId} {sz b off len m k : Nat} {c : List V} {x : B} : Good (apExact P e sz b off len m k c x) := by
  unfold apExact
  repeat' first | with_reducible exact good_ret _ | with_reducible exact good_no _ | with_reducible exact good_opt _ _ | with_reducible exact good_getB _ | with_reducible exact good_modB _ _ | with_reducible exact good_newB _ | assumption | with_reducible exact good_apRoom | with_reducible exact good_apGrow | with_reducible refine good_cond ?_ ?_ | (with_reducible refine good_bnd ?_ (fun _ => ?_)) | split

theorem good_apTo {e : TypeId} {sz : Nat} {s : V} {m : Nat} {c : List V} : Good (apTo P e sz s m c) := by
  unfold apTo
  repeat' first | with_reducible exact good_ret _ | with_reducible exact good_no _ | with_reducible exact good_opt _ _ | with_reducible exact good_getB _ | with_reducible exact good_modB _ _ | with_reducible exact good_newB _ | assumption | with_reducible exact good_apExact | with_reducible exact good_apOpen | with_reducible exact good_apNew | with_reducible refine good_cond ?_ ?_ | (with_reducible refine good_bnd ?_ (fun _ => ?_)) | split

theorem good_apSrc {e : TypeId} {sz : Nat} {zeros : Bool} {m : Nat} {x : V} : Good (apSrc P e sz zeros m x) := by
  unfold apSrc
  repeat' first | with_reducible exact good_ret _ | with_reducible exact good_no _ | with_reducible exact good_opt _ _ | with_reducible exact good_getB _ | with_reducible exact good_modB _ _ | with_reducible exact good_newB _ | assumption | with_reducible exact good_srcCells | with_reducible refine good_cond ?_ ?_ | (with_reducible refine good_bnd ?_ (fun _ => ?_)) | split

theorem good_apFit {e : TypeId} {sz : Nat} {s : V} {m : Nat} {c : List V} : Good (apFit P e sz s m c) := by
  unfold apFit
  repeat' first | with_reducible exact good_ret _ | with_reducible exact good_no _ | with_reducible exact good_opt _ _ | with_reducible exact good_getB _ | with_reducible exact good_modB _ _ | with_reducible exact good_newB _ | assumption | with_reducible exact good_apTo | with_reducible refine good_cond ?_ ?_ | (with_reducible refine good_bnd ?_ (fun _ => ?_)) | split

theorem good_apB {e : TypeId} {sz : Nat} {zeros : Bool} {s x : V} {m : Nat} : Good (apB P e sz zeros s x m) := by
  unfold apB
  repeat' first | with_reducible exact good_ret _ | with_reducible exact good_no _ | with_reducible exact good_opt _ _ | with_reducible exact good_getB _ | with_reducible exact good_modB _ _ | with_reducible exact good_newB _ | assumption | with_reducible exact good_apFit | with_reducible exact good_apSrc | with_reducible refine good_cond ?_ ?_ | (with_reducible refine good_bnd ?_ (fun _ => ?_)) | split

theorem good_append1 {t xt : TypeId} {s x : V} : Good (append1 P t xt s x) := by
  unfold append1
  simp only [force_eq]
  repeat' first | with_reducible exact good_ret _ | with_reducible exact good_no _ | with_reducible exact good_opt _ _ | with_reducible exact good_getB _ | with_reducible exact good_modB _ _ | with_reducible exact good_newB _ | assumption | with_reducible exact good_apB | with_reducible refine good_cond ?_ ?_ | (with_reducible refine good_bnd ?_ (fun _ => ?_)) | split

theorem good_appendB {t xt : TypeId} {s x : V} : Good (appendB P t xt s x) := by
  unfold appendB
  repeat' first | with_reducible exact good_ret _ | with_reducible exact good_no _ | with_reducible exact good_opt _ _ | with_reducible exact good_getB _ | with_reducible exact good_modB _ _ | with_reducible exact good_newB _ | assumption | with_reducible exact good_append1 | with_reducible refine good_cond ?_ ?_ | (with_reducible refine good_bnd ?_ (fun _ => ?_)) | split

theorem good_clear1 {t : TypeId} {x : V} : Good (clear1 P t x) := by
  unfold clear1
  repeat' first | with_reducible exact good_ret _ | with_reducible exact good_no _ | with_reducible exact good_opt _ _ | with_reducible exact good_getB _ | with_reducible exact good_modB _ _ | with_reducible exact good_newB _ | assumption | with_reducible exact good_storeCellsB | with_reducible refine good_cond ?_ ?_ | (with_reducible refine good_bnd ?_ (fun _ => ?_)) | split

theorem good_clearB {t : TypeId} {x : V} : Good (clearB P t x) := by
  unfold clearB
  repeat' first | with_reducible exact good_ret _ | with_reducible exact good_no _ | with_reducible exact good_opt _ _ | with_reducible exact good_getB _ | with_reducible exact good_modB _ _ | with_reducible exact good_newB _ | assumption | with_reducible exact good_clear1 | with_reducible refine good_cond ?_ ?_ | (with_reducible refine good_bnd ?_ (fun _ => ?_)) | split

theorem good_copyB {t : TypeId} {d x : V} : Good (copyB P t d x) := by
  unfold copyB
  simp only [force_eq]
  repeat' first | with_reducible exact good_ret _ | with_reducible exact good_no _ | with_reducible exact good_opt _ _ | with_reducible exact good_getB _ | with_reducible exact good_modB _ _ | with_reducible exact good_newB _ | assumption | with_reducible exact good_storeCellsB | with_reducible exact good_loadCellsB | with_reducible refine good_cond ?_ ?_ | (with_reducible refine good_bnd ?_ (fun _ => ?_)) | split

theorem good_builtinB {b : Builtin} {ts : List TypeId} {args : List V} : Good (builtinB P b ts args) := by
  unfold builtinB
  repeat' first | with_reducible exact good_ret _ | with_reducible exact good_no _ | with_reducible exact good_opt _ _ | with_reducible exact good_getB _ | with_reducible exact good_modB _ _ | with_reducible exact good_newB _ | assumption | with_reducible exact good_copyB | with_reducible exact good_clearB | with_reducible exact good_appendB | with_reducible refine good_cond ?_ ?_ | (with_reducible refine good_bnd ?_ (fun _ => ?_)) | split

theorem good_lookIn {e : TypeId} {k : V} {ok : Bool} {es : List (V × V)} : Good (lookIn P e k ok es) := by
  unfold lookIn
  repeat' first | with_reducible exact good_ret _ | with_reducible exact good_no _ | with_reducible exact good_opt _ _ | with_reducible exact good_getB _ | with_reducible exact good_modB _ _ | with_reducible exact good_newB _ | assumption | with_reducible refine good_cond ?_ ?_ | (with_reducible refine good_bnd ?_ (fun _ => ?_)) | split

theorem good_bMap {b : B} : Good (bMap b) := by
  unfold bMap
  repeat' first | with_reducible exact good_ret _ | with_reducible exact good_no _ | with_reducible exact good_opt _ _ | with_reducible exact good_getB _ | with_reducible exact good_modB _ _ | with_reducible exact good_newB _ | assumption | with_reducible refine good_cond ?_ ?_ | (with_reducible refine good_bnd ?_ (fun _ => ?_)) | split

theorem good_mapEs {x : V} : Good (mapEs x) := by
  unfold mapEs
  repeat' first | with_reducible exact good_ret _ | with_reducible exact good_no _ | with_reducible exact good_opt _ _ | with_reducible exact good_getB _ | with_reducible exact good_modB _ _ | with_reducible exact good_newB _ | assumption | with_reducible exact good_bMap | with_reducible refine good_cond ?_ ?_ | (with_reducible refine good_bnd ?_ (fun _ => ?_)) | split

theorem good_lookupB {t : TypeId} {x k : V} {ok : Bool} : Good (lookupB P t x k ok) := by
  unfold lookupB
  repeat' first | with_reducible exact good_ret _ | with_reducible exact good_no _ | with_reducible exact good_opt _ _ | with_reducible exact good_getB _ | with_reducible exact good_modB _ _ | with_reducible exact good_newB _ | assumption | with_reducible exact good_mapEs | with_reducible exact good_lookIn | with_reducible refine good_cond ?_ ?_ | (with_reducible refine good_bnd ?_ (fun _ => ?_)) | split

theorem good_mapUpdB {t : TypeId} {m k v : V} : Good (mapUpdB P t m k v) := by
  unfold mapUpdB
  repeat' first | with_reducible exact good_ret _ | with_reducible exact good_no _ | with_reducible exact good_opt _ _ | with_reducible exact good_getB _ | with_reducible exact good_modB _ _ | with_reducible exact good_newB _ | assumption | with_reducible exact good_bMap | with_reducible refine good_cond ?_ ?_ | (with_reducible refine good_bnd ?_ (fun _ => ?_)) | split

theorem good_atLoad {k : IntKind} {l : List V} : Good (atLoad k l) := by
  unfold atLoad
  repeat' first | with_reducible exact good_ret _ | with_reducible exact good_no _ | with_reducible exact good_opt _ _ | with_reducible exact good_getB _ | with_reducible exact good_modB _ _ | with_reducible exact good_newB _ | assumption | with_reducible refine good_cond ?_ ?_ | (with_reducible refine good_bnd ?_ (fun _ => ?_)) | split

theorem good_atLoadP {l : List V} : Good (atLoadP l) := by
  unfold atLoadP
  repeat' first | with_reducible exact good_ret _ | with_reducible exact good_no _ | with_reducible exact good_opt _ _ | with_reducible exact good_getB _ | with_reducible exact good_modB _ _ | with_reducible exact good_newB _ | assumption | with_reducible refine good_cond ?_ ?_ | (with_reducible refine good_bnd ?_ (fun _ => ?_)) | split

theorem good_rwOk {x : B} : Good (rwOk x) := by
  unfold rwOk
  repeat' first | with_reducible exact good_ret _ | with_reducible exact good_no _ | with_reducible exact good_opt _ _ | with_reducible exact good_getB _ | with_reducible exact good_modB _ _ | with_reducible exact good_newB _ | assumption | with_reducible refine good_cond ?_ ?_ | (with_reducible refine good_bnd ?_ (fun _ => ?_)) | split

theorem good_atCas {k : IntKind} {b off : Nat} {old : Int} {new : V} {l : List V} : Good (atCas k b off old new l) := by
  unfold atCas
  repeat' first | with_reducible exact good_ret _ | with_reducible exact good_no _ | with_reducible exact good_opt _ _ | with_reducible exact good_getB _ | with_reducible exact good_modB _ _ | with_reducible exact good_newB _ | assumption | with_reducible exact good_storeCellsB | with_reducible refine good_cond ?_ ?_ | (with_reducible refine good_bnd ?_ (fun _ => ?_)) | split

theorem good_atAdd {k : IntKind} {b off : Nat} {y : Int} {l : List V} : Good (atAdd k b off y l) := by
  unfold atAdd
  repeat' first | with_reducible exact good_ret _ | with_reducible exact good_no _ | with_reducible exact good_opt _ _ | with_reducible exact good_getB _ | with_reducible exact good_modB _ _ | with_reducible exact good_newB _ | assumption | with_reducible exact good_storeCellsB | with_reducible refine good_cond ?_ ?_ | (with_reducible refine good_bnd ?_ (fun _ => ?_)) | split

theorem good_extB {e : Ext} {args : List V} : Good (extB e args) := by
  unfold extB
  repeat' first | with_reducible exact good_ret _ | with_reducible exact good_no _ | with_reducible exact good_opt _ _ | with_reducible exact good_getB _ | with_reducible exact good_modB _ _ | with_reducible exact good_newB _ | assumption | with_reducible exact good_atAdd | with_reducible exact good_atCas | with_reducible exact good_rwOk | with_reducible exact good_atLoadP | with_reducible exact good_atLoad | with_reducible exact good_storeCellsB | with_reducible exact good_loadCellsB | with_reducible refine good_cond ?_ ?_ | (with_reducible refine good_bnd ?_ (fun _ => ?_)) | split

theorem good_nval {m : M V} (hm : Good m) : Good (nval m) := by
  unfold nval
  repeat' first | with_reducible exact good_ret _ | with_reducible exact good_no _ | with_reducible exact good_opt _ _ | with_reducible exact good_getB _ | with_reducible exact good_modB _ _ | with_reducible exact good_newB _ | assumption | with_reducible refine good_cond ?_ ?_ | (with_reducible refine good_bnd ?_ (fun _ => ?_)) | split

theorem good_nunit {m : M Unit} (hm : Good m) : Good (nunit m) := by
  unfold nunit
  repeat' first | with_reducible exact good_ret _ | with_reducible exact good_no _ | with_reducible exact good_opt _ _ | with_reducible exact good_getB _ | with_reducible exact good_modB _ _ | with_reducible exact good_newB _ | assumption | with_reducible refine good_cond ?_ ?_ | (with_reducible refine good_bnd ?_ (fun _ => ?_)) | split

theorem good_evM {a : A} {x : Operand} : Good (evM a x) := by
  unfold evM
  repeat' first | with_reducible exact good_ret _ | with_reducible exact good_no _ | with_reducible exact good_opt _ _ | with_reducible exact good_getB _ | with_reducible exact good_modB _ _ | with_reducible exact good_newB _ | assumption | with_reducible refine good_cond ?_ ?_ | (with_reducible refine good_bnd ?_ (fun _ => ?_)) | split

theorem good_pick2 {a : A} {x y : Operand} {v : V} : Good (pick2 a x y v) := by
  unfold pick2
  repeat' first | with_reducible exact good_ret _ | with_reducible exact good_no _ | with_reducible exact good_opt _ _ | with_reducible exact good_getB _ | with_reducible exact good_modB _ _ | with_reducible exact good_newB _ | assumption | with_reducible exact good_evM | with_reducible refine good_cond ?_ ?_ | (with_reducible refine good_bnd ?_ (fun _ => ?_)) | split

theorem good_opPick {a : A} {c x y : Operand} : Good (opPick a c x y) := by
  unfold opPick
  repeat' first | with_reducible exact good_ret _ | with_reducible exact good_no _ | with_reducible exact good_opt _ _ | with_reducible exact good_getB _ | with_reducible exact good_modB _ _ | with_reducible exact good_newB _ | assumption | with_reducible exact good_pick2 | with_reducible exact good_evM | with_reducible refine good_cond ?_ ?_ | (with_reducible refine good_bnd ?_ (fun _ => ?_)) | split

theorem good_opAlloc {t : TypeId} : Good (opAlloc P t) := by
  unfold opAlloc
  repeat' first | with_reducible exact good_ret _ | with_reducible exact good_no _ | with_reducible exact good_opt _ _ | with_reducible exact good_getB _ | with_reducible exact good_modB _ _ | with_reducible exact good_newB _ | assumption | with_reducible exact good_newVarB | with_reducible refine good_cond ?_ ?_ | (with_reducible refine good_bnd ?_ (fun _ => ?_)) | split

theorem good_opBuild {a : A} {t : TypeId} {ps : Array (Nat × Operand)} : Good (opBuild P a t ps) := by
  unfold opBuild
  repeat' first | with_reducible exact good_ret _ | with_reducible exact good_no _ | with_reducible exact good_opt _ _ | with_reducible exact good_getB _ | with_reducible exact good_modB _ _ | with_reducible exact good_newB _ | assumption | with_reducible refine good_cond ?_ ?_ | (with_reducible refine good_bnd ?_ (fun _ => ?_)) | split

theorem good_opBuildSlice {a : A} {t : TypeId} {len : Nat} {ps : Array (Nat × Operand)} : Good (opBuildSlice P a t len ps) := by
  unfold opBuildSlice
  repeat' first | with_reducible exact good_ret _ | with_reducible exact good_no _ | with_reducible exact good_opt _ _ | with_reducible exact good_getB _ | with_reducible exact good_modB _ _ | with_reducible exact good_newB _ | assumption | with_reducible refine good_cond ?_ ?_ | (with_reducible refine good_bnd ?_ (fun _ => ?_)) | split

theorem good_ldV {t : TypeId} {v : V} : Good (ldV P t v) := by
  unfold ldV
  repeat' first | with_reducible exact good_ret _ | with_reducible exact good_no _ | with_reducible exact good_opt _ _ | with_reducible exact good_getB _ | with_reducible exact good_modB _ _ | with_reducible exact good_newB _ | assumption | with_reducible exact good_loadVarB | with_reducible refine good_cond ?_ ?_ | (with_reducible refine good_bnd ?_ (fun _ => ?_)) | split

theorem good_opLoad {a : A} {t : TypeId} {x : Operand} : Good (opLoad P a t x) := by
  unfold opLoad
  repeat' first | with_reducible exact good_ret _ | with_reducible exact good_no _ | with_reducible exact good_opt _ _ | with_reducible exact good_getB _ | with_reducible exact good_modB _ _ | with_reducible exact good_newB _ | assumption | with_reducible exact good_ldV | with_reducible exact good_evM | with_reducible refine good_cond ?_ ?_ | (with_reducible refine good_bnd ?_ (fun _ => ?_)) | split

theorem good_stV {t : TypeId} {v p : V} : Good (stV P t v p) := by
  unfold stV
  repeat' first | with_reducible exact good_ret _ | with_reducible exact good_no _ | with_reducible exact good_opt _ _ | with_reducible exact good_getB _ | with_reducible exact good_modB _ _ | with_reducible exact good_newB _ | assumption | with_reducible exact good_storeVarB | with_reducible refine good_cond ?_ ?_ | (with_reducible refine good_bnd ?_ (fun _ => ?_)) | split

theorem good_opStore {a : A} {t : TypeId} {x v : Operand} : Good (opStore P a t x v) := by
  unfold opStore
  repeat' first | with_reducible exact good_ret _ | with_reducible exact good_no _ | with_reducible exact good_opt _ _ | with_reducible exact good_getB _ | with_reducible exact good_modB _ _ | with_reducible exact good_newB _ | assumption | with_reducible exact good_stV | with_reducible exact good_evM | with_reducible refine good_cond ?_ ?_ | (with_reducible refine good_bnd ?_ (fun _ => ?_)) | split

theorem good_nilChk {v : V} : Good (nilChk v) := by
  unfold nilChk
  repeat' first | with_reducible exact good_ret _ | with_reducible exact good_no _ | with_reducible exact good_opt _ _ | with_reducible exact good_getB _ | with_reducible exact good_modB _ _ | with_reducible exact good_newB _ | assumption | with_reducible refine good_cond ?_ ?_ | (with_reducible refine good_bnd ?_ (fun _ => ?_)) | split

theorem good_opBin {a : A} {op : BinOp} {t : TypeId} {x y : Operand} : Good (opBin P a op t x y) := by
  unfold opBin
  repeat' first | with_reducible exact good_ret _ | with_reducible exact good_no _ | with_reducible exact good_opt _ _ | with_reducible exact good_getB _ | with_reducible exact good_modB _ _ | with_reducible exact good_newB _ | assumption | with_reducible exact good_evM | with_reducible refine good_cond ?_ ?_ | (with_reducible refine good_bnd ?_ (fun _ => ?_)) | split

theorem good_opUn {a : A} {op : UnOp} {x : Operand} : Good (opUn a op x) := by
  unfold opUn
  repeat' first | with_reducible exact good_ret _ | with_reducible exact good_no _ | with_reducible exact good_opt _ _ | with_reducible exact good_getB _ | with_reducible exact good_modB _ _ | with_reducible exact good_newB _ | assumption | with_reducible exact good_evM | with_reducible refine good_cond ?_ ?_ | (with_reducible refine good_bnd ?_ (fun _ => ?_)) | split

theorem good_opConv {a : A} {s d : TypeId} {x : Operand} : Good (opConv P a s d x) := by
  unfold opConv
  repeat' first | with_reducible exact good_ret _ | with_reducible exact good_no _ | with_reducible exact good_opt _ _ | with_reducible exact good_getB _ | with_reducible exact good_modB _ _ | with_reducible exact good_newB _ | assumption | with_reducible exact good_evM | with_reducible exact good_convB | with_reducible refine good_cond ?_ ?_ | (with_reducible refine good_bnd ?_ (fun _ => ?_)) | split

theorem good_opFunc {a : A} {f : FuncId} {c d : Array Operand} : Good (opFunc a f c d) := by
  unfold opFunc
  repeat' first | with_reducible exact good_ret _ | with_reducible exact good_no _ | with_reducible exact good_opt _ _ | with_reducible exact good_getB _ | with_reducible exact good_modB _ _ | with_reducible exact good_newB _ | assumption | with_reducible refine good_cond ?_ ?_ | (with_reducible refine good_bnd ?_ (fun _ => ?_)) | split

theorem good_opMakeMap  : Good (opMakeMap) := by
  unfold opMakeMap
  repeat' first | with_reducible exact good_ret _ | with_reducible exact good_no _ | with_reducible exact good_opt _ _ | with_reducible exact good_getB _ | with_reducible exact good_modB _ _ | with_reducible exact good_newB _ | assumption | with_reducible refine good_cond ?_ ?_ | (with_reducible refine good_bnd ?_ (fun _ => ?_)) | split

theorem good_mkSlice {e : TypeId} {sz : Nat} {z : V} {l c : Nat} : Good (mkSlice e sz z l c) := by
  unfold mkSlice
  repeat' first | with_reducible exact good_ret _ | with_reducible exact good_no _ | with_reducible exact good_opt _ _ | with_reducible exact good_getB _ | with_reducible exact good_modB _ _ | with_reducible exact good_newB _ | assumption | with_reducible refine good_cond ?_ ?_ | (with_reducible refine good_bnd ?_ (fun _ => ?_)) | split

theorem good_opMakeSlice {a : A} {t : TypeId} {l c : Operand} : Good (opMakeSlice P a t l c) := by
  unfold opMakeSlice
  simp only [force_eq]
  repeat' first | with_reducible exact good_ret _ | with_reducible exact good_no _ | with_reducible exact good_opt _ _ | with_reducible exact good_getB _ | with_reducible exact good_modB _ _ | with_reducible exact good_newB _ | assumption | with_reducible exact good_mkSlice | with_reducible exact good_evM | with_reducible refine good_cond ?_ ?_ | (with_reducible refine good_bnd ?_ (fun _ => ?_)) | split

theorem good_evO {a : A} {o : Option Operand} : Good (evO a o) := by
  unfold evO
  repeat' first | with_reducible exact good_ret _ | with_reducible exact good_no _ | with_reducible exact good_opt _ _ | with_reducible exact good_getB _ | with_reducible exact good_modB _ _ | with_reducible exact good_newB _ | assumption | with_reducible exact good_evM | with_reducible refine good_cond ?_ ?_ | (with_reducible refine good_bnd ?_ (fun _ => ?_)) | split

theorem good_opSlice {a : A} {t : TypeId} {x : Operand} {lo hi mx : Option Operand} : Good (opSlice P a t x lo hi mx) := by
  unfold opSlice
  repeat' first | with_reducible exact good_ret _ | with_reducible exact good_no _ | with_reducible exact good_opt _ _ | with_reducible exact good_getB _ | with_reducible exact good_modB _ _ | with_reducible exact good_newB _ | assumption | with_reducible exact good_evO | with_reducible exact good_evM | with_reducible refine good_cond ?_ ?_ | (with_reducible refine good_bnd ?_ (fun _ => ?_)) | split

theorem good_addOff {b off o : Nat} : Good (addOff b off o) := by
  unfold addOff
  simp only [force_eq]
  repeat' first | with_reducible exact good_ret _ | with_reducible exact good_no _ | with_reducible exact good_opt _ _ | with_reducible exact good_getB _ | with_reducible exact good_modB _ _ | with_reducible exact good_newB _ | assumption | with_reducible refine good_cond ?_ ?_ | (with_reducible refine good_bnd ?_ (fun _ => ?_)) | split

theorem good_faV {t : TypeId} {i : Nat} {x : V} : Good (faV P t i x) := by
  unfold faV
  repeat' first | with_reducible exact good_ret _ | with_reducible exact good_no _ | with_reducible exact good_opt _ _ | with_reducible exact good_getB _ | with_reducible exact good_modB _ _ | with_reducible exact good_newB _ | assumption | with_reducible exact good_addOff | with_reducible refine good_cond ?_ ?_ | (with_reducible refine good_bnd ?_ (fun _ => ?_)) | split

theorem good_opFieldAddr {a : A} {t : TypeId} {x : Operand} {i : Nat} : Good (opFieldAddr P a t x i) := by
  unfold opFieldAddr
  repeat' first | with_reducible exact good_ret _ | with_reducible exact good_no _ | with_reducible exact good_opt _ _ | with_reducible exact good_getB _ | with_reducible exact good_modB _ _ | with_reducible exact good_newB _ | assumption | with_reducible exact good_faV | with_reducible exact good_evM | with_reducible refine good_cond ?_ ?_ | (with_reducible refine good_bnd ?_ (fun _ => ?_)) | split

theorem good_fdV {t : TypeId} {i : Nat} {x : V} : Good (fdV P t i x) := by
  unfold fdV
  repeat' first | with_reducible exact good_ret _ | with_reducible exact good_no _ | with_reducible exact good_opt _ _ | with_reducible exact good_getB _ | with_reducible exact good_modB _ _ | with_reducible exact good_newB _ | assumption | with_reducible refine good_cond ?_ ?_ | (with_reducible refine good_bnd ?_ (fun _ => ?_)) | split

theorem good_opField {a : A} {t : TypeId} {x : Operand} {i : Nat} : Good (opField P a t x i) := by
  unfold opField
  repeat' first | with_reducible exact good_ret _ | with_reducible exact good_no _ | with_reducible exact good_opt _ _ | with_reducible exact good_getB _ | with_reducible exact good_modB _ _ | with_reducible exact good_newB _ | assumption | with_reducible exact good_fdV | with_reducible exact good_evM | with_reducible refine good_cond ?_ ?_ | (with_reducible refine good_bnd ?_ (fun _ => ?_)) | split

theorem good_opIndexAddr {a : A} {t : TypeId} {x i : Operand} : Good (opIndexAddr P a t x i) := by
  unfold opIndexAddr
  repeat' first | with_reducible exact good_ret _ | with_reducible exact good_no _ | with_reducible exact good_opt _ _ | with_reducible exact good_getB _ | with_reducible exact good_modB _ _ | with_reducible exact good_newB _ | assumption | with_reducible exact good_evM | with_reducible refine good_cond ?_ ?_ | (with_reducible refine good_bnd ?_ (fun _ => ?_)) | split

theorem good_opIndex {a : A} {t : TypeId} {x i : Operand} : Good (opIndex P a t x i) := by
  unfold opIndex
  repeat' first | with_reducible exact good_ret _ | with_reducible exact good_no _ | with_reducible exact good_opt _ _ | with_reducible exact good_getB _ | with_reducible exact good_modB _ _ | with_reducible exact good_newB _ | assumption | with_reducible exact good_evM | with_reducible refine good_cond ?_ ?_ | (with_reducible refine good_bnd ?_ (fun _ => ?_)) | split

theorem good_opLookup {a : A} {t : TypeId} {x i : Operand} {ok : Bool} : Good (opLookup P a t x i ok) := by
  unfold opLookup
  repeat' first | with_reducible exact good_ret _ | with_reducible exact good_no _ | with_reducible exact good_opt _ _ | with_reducible exact good_getB _ | with_reducible exact good_modB _ _ | with_reducible exact good_newB _ | assumption | with_reducible exact good_evM | with_reducible exact good_lookupB | with_reducible refine good_cond ?_ ?_ | (with_reducible refine good_bnd ?_ (fun _ => ?_)) | split

theorem good_opMapUpd {a : A} {t : TypeId} {m k x : Operand} : Good (opMapUpd P a t m k x) := by
  unfold opMapUpd
  repeat' first | with_reducible exact good_ret _ | with_reducible exact good_no _ | with_reducible exact good_opt _ _ | with_reducible exact good_getB _ | with_reducible exact good_modB _ _ | with_reducible exact good_newB _ | assumption | with_reducible exact good_evM | with_reducible exact good_mapUpdB | with_reducible refine good_cond ?_ ?_ | (with_reducible refine good_bnd ?_ (fun _ => ?_)) | split

theorem good_extractV {i : Nat} {v : V} : Good (extractV i v) := by
  unfold extractV
  repeat' first | with_reducible exact good_ret _ | with_reducible exact good_no _ | with_reducible exact good_opt _ _ | with_reducible exact good_getB _ | with_reducible exact good_modB _ _ | with_reducible exact good_newB _ | assumption | with_reducible refine good_cond ?_ ?_ | (with_reducible refine good_bnd ?_ (fun _ => ?_)) | split

theorem good_opExtract {a : A} {t : Operand} {i : Nat} : Good (opExtract a t i) := by
  unfold opExtract
  repeat' first | with_reducible exact good_ret _ | with_reducible exact good_no _ | with_reducible exact good_opt _ _ | with_reducible exact good_getB _ | with_reducible exact good_modB _ _ | with_reducible exact good_newB _ | assumption | with_reducible exact good_extractV | with_reducible exact good_evM | with_reducible refine good_cond ?_ ?_ | (with_reducible refine good_bnd ?_ (fun _ => ?_)) | split

theorem good_callNx {p : FuncId × List V} : Good (callNx P p) := by
  unfold callNx
  repeat' first | with_reducible exact good_ret _ | with_reducible exact good_no _ | with_reducible exact good_opt _ _ | with_reducible exact good_getB _ | with_reducible exact good_modB _ _ | with_reducible exact good_newB _ | assumption | with_reducible refine good_nval ?_ | with_reducible exact good_extB | with_reducible refine good_cond ?_ ?_ | (with_reducible refine good_bnd ?_ (fun _ => ?_)) | split

theorem good_opCallV {a : A} {f : Operand} {args : List V} : Good (opCallV P a f args) := by
  unfold opCallV
  repeat' first | with_reducible exact good_ret _ | with_reducible exact good_no _ | with_reducible exact good_opt _ _ | with_reducible exact good_getB _ | with_reducible exact good_modB _ _ | with_reducible exact good_newB _ | assumption | with_reducible exact good_callNx | with_reducible exact good_evM | with_reducible refine good_cond ?_ ?_ | (with_reducible refine good_bnd ?_ (fun _ => ?_)) | split

theorem good_dfrNx {p : FuncId × List V} : Good (dfrNx p) := by
  unfold dfrNx
  repeat' first | with_reducible exact good_ret _ | with_reducible exact good_no _ | with_reducible exact good_opt _ _ | with_reducible exact good_getB _ | with_reducible exact good_modB _ _ | with_reducible exact good_newB _ | assumption | with_reducible refine good_cond ?_ ?_ | (with_reducible refine good_bnd ?_ (fun _ => ?_)) | split

theorem good_opDeferV {a : A} {f : Operand} {args : List V} : Good (opDeferV a f args) := by
  unfold opDeferV
  repeat' first | with_reducible exact good_ret _ | with_reducible exact good_no _ | with_reducible exact good_opt _ _ | with_reducible exact good_getB _ | with_reducible exact good_modB _ _ | with_reducible exact good_newB _ | assumption | with_reducible exact good_dfrNx | with_reducible exact good_evM | with_reducible refine good_cond ?_ ?_ | (with_reducible refine good_bnd ?_ (fun _ => ?_)) | split

theorem good_putM {a : A} {dst : Option Tmp} {v : V} : Good (putM a dst v) := by
  cases dst with
  | none => exact good_ret _
  | some i =>
    cases a with
    | mk t d sz => exact good_cond (good_ret _) (good_no _)

end Go.Ev
