/- The evaluator: values with names of blocks, a heap of named blocks, operations, code, calls. Definitions alone. -/
import GoSem.Claims
import Derived.Orders
set_option linter.unusedSimpArgs false
set_option linter.unusedVariables false
namespace Go.Ev

/-! ### ways, trees -/

inductive Pt where
  | z
  | l (p : Pt)
  | r (p : Pt)

/-- the way to a number -/
noncomputable def pathF (fuel : Nat) : Nat → Pt :=
  Nat.rec (motive := fun _ => Nat → Pt) (fun _ => .z)
    (fun _ ih k => Nat.rec (motive := fun _ => Pt) .z (fun p _ => Nat.rec (motive := fun _ => Pt) (.l (ih (Nat.div p 2))) (fun _ _ => .r (ih (Nat.div p 2))) (Nat.mod p 2)) k) fuel
noncomputable def path (k : Nat) : Pt := pathF (Nat.succ k) k

inductive Tr (α : Type) where
  | nil
  | node (l : Tr α) (o : Option α) (r : Tr α)

namespace Tr
variable {α : Type}
noncomputable def getP (p : Pt) : Tr α → Option α :=
  Pt.rec (motive := fun _ => Tr α → Option α)
    (fun t => Tr.rec (motive := fun _ => Option α) none (fun _ o _ _ _ => o) t)
    (fun _ ih t => Tr.rec (motive := fun _ => Option α) none (fun l _ _ _ _ => ih l) t)
    (fun _ ih t => Tr.rec (motive := fun _ => Option α) none (fun _ _ r _ _ => ih r) t) p
noncomputable def setP (v : α) (p : Pt) : Tr α → Tr α :=
  Pt.rec (motive := fun _ => Tr α → Tr α)
    (fun t => Tr.rec (motive := fun _ => Tr α) (.node .nil (some v) .nil) (fun l _ r _ _ => .node l (some v) r) t)
    (fun _ ih t => Tr.rec (motive := fun _ => Tr α) (.node (ih .nil) none .nil) (fun l o r _ _ => .node (ih l) o r) t)
    (fun _ ih t => Tr.rec (motive := fun _ => Tr α) (.node .nil none (ih .nil)) (fun l o r _ _ => .node l o (ih r)) t) p
/-- the same, the way gone once and for all: a closed function for each way -/
structure BxG (α : Type) where
  run : Tr α → Option α
noncomputable def getX (p : Pt) : BxG α := Pt.rec (motive := fun _ => BxG α)
  ⟨fun t => Tr.rec (motive := fun _ => Option α) none (fun _ o _ _ _ => o) t⟩
  (fun _ ih => BxG.rec (motive := fun _ => BxG α) (fun g => ⟨fun t => Tr.rec (motive := fun _ => Option α) none (fun l _ _ _ _ => g l) t⟩) ih)
  (fun _ ih => BxG.rec (motive := fun _ => BxG α) (fun g => ⟨fun t => Tr.rec (motive := fun _ => Option α) none (fun _ _ r _ _ => g r) t⟩) ih) p
structure BxU (α : Type) where
  run : α → Tr α → Tr α
noncomputable def setX (p : Pt) : BxU α := Pt.rec (motive := fun _ => BxU α)
  ⟨fun v t => Tr.rec (motive := fun _ => Tr α) (.node .nil (some v) .nil) (fun l _ r _ _ => .node l (some v) r) t⟩
  (fun _ ih => BxU.rec (motive := fun _ => BxU α) (fun g => ⟨fun v t => Tr.rec (motive := fun _ => Tr α) (.node (g v .nil) none .nil) (fun l o r _ _ => .node (g v l) o r) t⟩) ih)
  (fun _ ih => BxU.rec (motive := fun _ => BxU α) (fun g => ⟨fun v t => Tr.rec (motive := fun _ => Tr α) (.node .nil none (g v .nil)) (fun l o r _ _ => .node l o (g v r)) t⟩) ih) p
noncomputable def get (t : Tr α) (k : Nat) : Option α := BxG.rec (motive := fun _ => Option α) (fun f => f t) (getX (path k))
noncomputable def set (t : Tr α) (k : Nat) (v : α) : Tr α := BxU.rec (motive := fun _ => Tr α) (fun f => f v t) (setX (path k))
end Tr

/-! ### values, blocks, the state -/

inductive Cap where
  | exact (c : Nat)
  | open_ (sz : Nat)

inductive V where
  | int (k : IntKind) (n : Int)
  | bool (b : Bool)
  | str (s : List Nat)
  | nilp
  | ptr (x off : Nat)
  | nils
  | emp
  | sl (x off len : Nat) (cap : Cap)
  | nilm
  | map (x : Nat)
  | nilf
  | fn (f : FuncId) (first captured : List V)
  | nili
  | agg (cs : List V)
  | tup (vs : List V)

/-- a block: of which type, how many cells are known, they, whether it is for reading alone; a map; one that may not be touched any more -/
inductive B where
  | cells (t : TypeId) (n : Nat) (cs : List V) (ro : Bool)
  | map (es : List (V × V))
  | dead

structure S where
  h : Tr B
  n : Nat
  r : Nat
  w : Nat

inductive R (α : Type) where
  | ok (a : α) (s : S)
  | no (why : Nat)

abbrev M (α : Type) := S → R α

variable {α β : Type}
noncomputable def ret (a : α) : M α := fun s => .ok a s
noncomputable def bnd (m : M α) (f : α → M β) : M β := fun s => R.rec (motive := fun _ => R β) (fun a s' => f a s') (fun e => .no e) (m s)
def no (e : Nat) : M α := fun _ => .no e
noncomputable def opt (e : Nat) (o : Option α) : M α := Option.rec (motive := fun _ => M α) (no e) (fun a => ret a) o

noncomputable def force (n : Nat) (k : Nat → α) : α := Nat.rec (motive := fun _ => α) (k 0) (fun p _ => k (Nat.succ p)) n
noncomputable def forceI (n : Int) (k : Int → α) : α := Int.rec (motive := fun _ => α) (fun m => force m fun m => k (Int.ofNat m)) (fun m => force m fun m => k (Int.negSucc m)) n

noncomputable def bit (x : Nat) : Nat := Nat.shiftLeft 1 x

noncomputable def getB (x : Nat) : M B := fun s => S.rec (motive := fun _ => R B) (fun h n r w =>
  force (Nat.lor r (bit x)) fun r' => Option.rec (motive := fun _ => R B) (.no 1) (fun b => .ok b (S.mk h n r' w)) (h.get x)) s
/-- a block that is there is changed -/
noncomputable def modB (x : Nat) (b : B) : M Unit := fun s => S.rec (motive := fun _ => R Unit) (fun h n r w =>
  force (Nat.lor r (bit x)) fun r' => force (Nat.lor w (bit x)) fun w' =>
  Option.rec (motive := fun _ => R Unit) (.no 2) (fun _ => .ok () (S.mk (h.set x b) n r' w')) (h.get x)) s
noncomputable def newB (b : B) : M Nat := fun s => S.rec (motive := fun _ => R Nat) (fun h n r w =>
  force n fun n => force (Nat.lor w (bit n)) fun w' => .ok n (S.mk (h.set n b) (Nat.succ n) r w')) s

/-! ### lists -/

noncomputable def lDrop (n : Nat) : List α → List α := Nat.rec (motive := fun _ => List α → List α) (fun l => l) (fun _ ih l => List.rec (motive := fun _ => List α) [] (fun _ t _ => ih t) l) n
noncomputable def lTake (n : Nat) : List α → List α := Nat.rec (motive := fun _ => List α → List α) (fun _ => []) (fun _ ih l => List.rec (motive := fun _ => List α) [] (fun x t _ => x :: ih t) l) n
noncomputable def lLen (l : List α) : Nat := List.rec (motive := fun _ => Nat → Nat) (fun n => n) (fun _ _ ih n => force (Nat.succ n) ih) l 0
noncomputable def lGet (n : Nat) : List α → Option α := Nat.rec (motive := fun _ => List α → Option α) (fun l => List.rec (motive := fun _ => Option α) none (fun x _ _ => some x) l) (fun _ ih l => List.rec (motive := fun _ => Option α) none (fun _ t _ => ih t) l) n
noncomputable def lApp (l l2 : List α) : List α := List.rec (motive := fun _ => List α) l2 (fun x _ ih => x :: ih) l
noncomputable def lOver (vs : List α) : List α → List α := List.rec (motive := fun _ => List α → List α) (fun l => l) (fun v _ ih l => List.rec (motive := fun _ => List α) [] (fun _ t _ => v :: ih t) l) vs
/-- the list with other elements from a place on -/
noncomputable def lSet (off : Nat) (vs : List α) : List α → List α := Nat.rec (motive := fun _ => List α → List α) (lOver vs) (fun _ ih l => List.rec (motive := fun _ => List α) [] (fun x t _ => x :: ih t) l) off
noncomputable def lAll (p : α → Bool) (l : List α) : Bool := List.rec (motive := fun _ => Bool) true (fun x _ ih => cond (p x) ih false) l
noncomputable def lMap (f : α → β) (l : List α) : List β := List.rec (motive := fun _ => List β) [] (fun x _ ih => f x :: ih) l
noncomputable def lRep (zs : List α) (n : Nat) : List α := Nat.rec (motive := fun _ => List α) [] (fun _ ih => lApp zs ih) n

/-! ### constants -/

mutual
def ofValue : Value → Option V
  | .bool b => some (.bool b)
  | .int k n => some (.int k n)
  | .string s => some (.str (s.data.toList.map (·.toNat)))
  | .pointer none => some .nilp
  | .slice none 0 0 => some .nils
  | .map none => some .nilm
  | .nilFunc => some .nilf
  | .nilIface => some .nili
  | .agg ⟨cs⟩ => match ofValues cs with
    | some l => some (.agg l)
    | none => none
  | .tuple ⟨cs⟩ => match ofValues cs with
    | some l => some (.tup l)
    | none => none
  | _ => none
def ofValues : List Value → Option (List V)
  | [] => some []
  | v :: vs => match ofValue v with
    | some x => match ofValues vs with
      | some xs => some (x :: xs)
      | none => none
    | none => none
end

def undefV : V := .tup []

def V.cells (v : V) : List V := match v with
  | .agg cs => cs
  | v => [v]

/-- may it stand in one cell? -/
def V.oneC (v : V) : Bool := match v with
  | .agg _ => false
  | .tup _ => false
  | _ => true

/-! ### frames -/

structure A where
  t : Tr V
  d : List (FuncId × List V)
  sz : Nat

noncomputable def A.at (a : A) (i : Nat) : V := A.rec (motive := fun _ => V) (fun t _ _ => Option.rec (motive := fun _ => V) undefV (fun v => v) (t.get i)) a

noncomputable def putM (a : A) (dst : Option Tmp) (v : V) : M A := Option.rec (motive := fun _ => M A) (ret a)
  (fun i => A.rec (motive := fun _ => M A) (fun t d sz => cond (Nat.blt i sz) (ret (A.mk (t.set i v) d sz)) (no 3)) a) dst

structure BxO where
  run : A → Option V
noncomputable def cOpd (x : Operand) : BxO := match x with
  | .tmp t => ⟨fun a => some (a.at t)⟩
  | .const v => match ofValue v with
    | none => ⟨fun _ => none⟩
    | some w => ⟨fun _ => some w⟩
  | .global _ => ⟨fun _ => none⟩
  | .func f => ⟨fun _ => some (.fn f [] [])⟩
noncomputable def A.eval (a : A) (x : Operand) : Option V := BxO.rec (motive := fun _ => Option V) (fun f => f a) (cOpd x)

noncomputable def A.evals (a : A) : List Operand → Option (List V)
  | [] => some []
  | o :: os => match a.eval o with
    | none => none
    | some x => match a.evals os with
      | none => none
      | some xs => some (x :: xs)

noncomputable def A.evalPairs (a : A) : List (Nat × Operand) → Option (List (Nat × V))
  | [] => some []
  | (i, o) :: os => match a.eval o with
    | none => none
    | some x => match a.evalPairs os with
      | none => none
      | some xs => some ((i, x) :: xs)

section
variable (P : Program)

/-! ### types -/

def isAggD (d : TypeDesc) : Bool := match d with
  | .struct _ => true
  | .array _ _ => true
  | _ => false
def isAggO (t : TypeId) : Option Bool := match P.underlying t with
  | some d => some (isAggD d)
  | none => none
def szOf (t : TypeId) : Option Nat := match P.info? t with
  | some i => some i.size
  | none => none
def zeroV (t : TypeId) : Option V := match P.info? t with
  | some i => match i.zero with
    | some z => ofValue z
    | none => none
  | none => none
def elemT (t : TypeId) : Option TypeId := match P.underlying t with
  | some (.slice e) => some e
  | _ => none

/-! ### memory -/

noncomputable def cutL (off k n : Nat) (cs : List V) : M (List V) := cond (Nat.ble (Nat.add off k) n) (ret (lTake k (lDrop off cs))) (no 10)
noncomputable def bCells (off k : Nat) (b : B) : M (List V) := match b with
  | .cells _ n cs _ => cutL off k n cs
  | _ => no 11
noncomputable def loadCellsB (x off k : Nat) : M (List V) := bnd (getB x) (bCells off k)

noncomputable def putCells (x off : Nat) (vs : List V) (b : B) : M Unit := match b with
  | .cells t n cs ro => cond ro (no 12) (cond (Nat.ble (Nat.add off (lLen vs)) n) (cond (lAll V.oneC vs) (modB x (.cells t n (lSet off vs cs) false)) (no 13)) (no 14))
  | _ => no 15
noncomputable def storeCellsB (x off : Nat) (vs : List V) : M Unit := bnd (getB x) (putCells x off vs)

noncomputable def partV (t : TypeId) (cs : List V) (off : Nat) : Option V := match isAggO P t with
  | none => none
  | some g => cond g (match szOf P t with
    | none => none
    | some n => some (.agg (lTake n (lDrop off cs)))) (lGet off cs)

noncomputable def one1 (l : List V) : M V := match l with
  | [v] => ret v
  | _ => no 16
noncomputable def aggR (l : List V) : M V := ret (.agg l)
noncomputable def loadVarB (t : TypeId) (x off : Nat) : M V :=
  bnd (opt 9 (isAggO P t)) fun g => cond g (bnd (opt 17 (szOf P t)) fun n => bnd (loadCellsB x off n) aggR) (bnd (loadCellsB x off 1) one1)
noncomputable def storeVarB (t : TypeId) (x off : Nat) (v : V) : M Unit :=
  bnd (opt 18 (szOf P t)) fun n => cond (Nat.beq (lLen v.cells) n) (storeCellsB x off v.cells) (no 19)
noncomputable def newCells (t : TypeId) (cs : List V) (ro : Bool) : M Nat := newB (.cells t (lLen cs) cs ro)
noncomputable def newVarB (t : TypeId) (v : V) : M V := bnd (newCells t v.cells false) fun x => ret (.ptr x 0)

noncomputable def fillV (place : Nat → Option (Nat × Nat)) (n : Nat) (cells : List V) (ps : List (Nat × V)) : Option (List V) := match ps with
  | [] => some cells
  | (i, v) :: rest => match place i with
    | none => none
    | some (off, size) => cond (and (Nat.beq (lLen v.cells) size) (Nat.ble (Nat.add off size) n)) (fillV place n (lSet off v.cells cells) rest) none

def asNat (v : V) : Option Nat := match v with
  | .int _ n => match n with
    | .ofNat m => some m
    | _ => none
  | _ => none

/-! ### slicing -/

noncomputable def bdM (len : Nat) (cap : Option Nat) (mx : Option V) : Option (Option Nat) := match mx with
  | none => some cap
  | some v => match asNat v with
    | none => none
    | some n => cond (Nat.ble n (cap.getD len)) (some (some n)) none
noncomputable def bdH (len : Nat) (m : Option Nat) (hi mx : Option V) : Option Nat := match hi with
  | none => match mx with
    | none => some len
    | some _ => none
  | some v => match asNat v with
    | none => none
    | some n => cond (Nat.ble n (m.getD len)) (some n) none
noncomputable def bdL (h : Nat) (lo : Option V) : Option Nat := match lo with
  | none => some 0
  | some v => match asNat v with
    | none => none
    | some n => cond (Nat.ble n h) (some n) none
noncomputable def bdS (len : Nat) (cap : Option Nat) (lo hi mx : Option V) : Option (Nat × Nat × Option Nat) := match bdM len cap mx with
  | none => none
  | some m => match bdH len m hi mx with
    | none => none
    | some h => match bdL h lo with
      | none => none
      | some l => force l fun l => force h fun h => some (l, h, m)
noncomputable def cutX (b off sz l h m : Nat) : V := cond (Nat.beq m l) (.sl b off (Nat.sub h l) (.exact (Nat.sub m l))) (force (Nat.add off (Nat.mul l sz)) fun o => force (Nat.sub h l) fun n => force (Nat.sub m l) fun c => .sl b o n (.exact c))
noncomputable def cutO (b off sz z len l h : Nat) : Option V := cond (Nat.beq z sz) (cond (or (Nat.beq l 0) (Nat.blt l len)) (force (Nat.add off (Nat.mul l sz)) fun o => force (Nat.sub h l) fun n => some (.sl b o n (.open_ z))) (some .emp)) none
noncomputable def sliceX (b off sz : Nat) (r : Option (Nat × Nat × Option Nat)) : Option V := match r with
  | some (l, h, some m) => some (cutX b off sz l h m)
  | _ => none
noncomputable def sliceO (b off sz z len : Nat) (r : Option (Nat × Nat × Option Nat)) : Option V := match r with
  | some (l, h, some m) => some (cutX b off sz l h m)
  | some (l, h, none) => cutO b off sz z len l h
  | none => none
noncomputable def slicePtr (t : TypeId) (b off : Nat) (lo hi mx : Option V) : Option V := match P.underlying t with
  | some (.array n elem) => match szOf P elem with
    | some sz => sliceX b off sz (bdS n (some n) lo hi mx)
    | none => none
  | _ => none
noncomputable def sliceSl (t : TypeId) (b off len : Nat) (cap : Cap) (lo hi mx : Option V) : Option V := match P.underlying t with
  | some (.slice elem) => match szOf P elem with
    | some sz => match cap with
      | .exact c => sliceX b off sz (bdS len (some c) lo hi mx)
      | .open_ z => sliceO b off sz z len (bdS len none lo hi mx)
    | none => none
  | _ => none
noncomputable def sliceNil (t : TypeId) (lo hi mx : Option V) : Option V := match P.underlying t with
  | some (.slice elem) => match szOf P elem with
    | some _ => match bdS 0 (some 0) lo hi mx with
      | some _ => some .nils
      | none => none
    | none => none
  | _ => none
noncomputable def sliceEmp (t : TypeId) (lo hi mx : Option V) : Option V := match P.underlying t with
  | some (.slice elem) => match szOf P elem with
    | some _ => match mx with
      | none => match bdS 0 none lo hi none with
        | some _ => some .emp
        | none => none
      | some _ => none
    | none => none
  | _ => none
noncomputable def sliceStr (t : TypeId) (s : List Nat) (lo hi mx : Option V) : Option V := match P.underlying t with
  | some .string => match mx with
    | none => match bdS (lLen s) (some (lLen s)) lo hi none with
      | some (l, h, _) => some (.str (lTake (Nat.sub h l) (lDrop l s)))
      | none => none
    | some _ => none
  | _ => none
noncomputable def sliceV (t : TypeId) (x : V) (lo hi mx : Option V) : Option V := match x with
  | .ptr b off => slicePtr P t b off lo hi mx
  | .str s => sliceStr P t s lo hi mx
  | .nils => sliceNil P t lo hi mx
  | .emp => sliceEmp P t lo hi mx
  | .sl b off len cap => sliceSl P t b off len cap lo hi mx
  | _ => none

noncomputable def idxAt (b off len sz i : Nat) : Option V := cond (Nat.blt i len) (force (Nat.add off (Nat.mul i sz)) fun o => some (.ptr b o)) none
noncomputable def idxPtr (t : TypeId) (b off i : Nat) : Option V := match P.underlying t with
  | some (.array n e) => match szOf P e with
    | some sz => idxAt b off n sz i
    | none => none
  | _ => none
noncomputable def idxSl (t : TypeId) (b off len i : Nat) : Option V := match P.underlying t with
  | some (.slice e) => match szOf P e with
    | some sz => idxAt b off len sz i
    | none => none
  | _ => none
noncomputable def indexAddrV (t : TypeId) (x i : V) : Option V := match asNat i with
  | none => none
  | some i => match x with
    | .ptr b off => idxPtr P t b off i
    | .sl b off len _ => idxSl P t b off len i
    | _ => none

/-! ### numbers, texts, equality -/

def beqNats : List Nat → List Nat → Bool
  | [], [] => true
  | a :: x, b :: y => cond (Nat.beq a b) (beqNats x y) false
  | _, _ => false
/-- -1, 0, 1 -/
def cmpNats : List Nat → List Nat → Int
  | [], [] => 0
  | [], _ :: _ => -1
  | _ :: _, [] => 1
  | a :: x, b :: y => cond (Nat.beq a b) (cmpNats x y) (cond (Nat.blt a b) (-1) 1)

def beqInt (a b : Int) : Bool := match a with
  | .ofNat x => match b with
    | .ofNat y => Nat.beq x y
    | .negSucc _ => false
  | .negSucc x => match b with
    | .ofNat _ => false
    | .negSucc y => Nat.beq x y
def ltInt (a b : Int) : Bool := match a with
  | .ofNat x => match b with
    | .ofNat y => Nat.blt x y
    | .negSucc _ => false
  | .negSucc x => match b with
    | .ofNat _ => true
    | .negSucc y => Nat.blt y x

def kNat : IntKind → Nat
  | .i8 => 0 | .i16 => 1 | .i32 => 2 | .i64 => 3 | .u8 => 4 | .u16 => 5 | .u32 => 6 | .u64 => 7
def kBeq (j k : IntKind) : Bool := Nat.beq (kNat j) (kNat k)

noncomputable def eqFields (eq : TypeId → V → V → Option Bool) (xs ys : List V) (fs : List Field) : Option Bool := match fs with
  | [] => some true
  | f :: rest => cond (f.name == "_") (eqFields eq xs ys rest) (match partV P f.type xs f.offset with
    | none => none
    | some a => match partV P f.type ys f.offset with
      | none => none
      | some b => match eq f.type a b with
        | none => none
        | some r => cond r (eqFields eq xs ys rest) (some false))
/-- elements from number i on, so many -/
noncomputable def eqElems (eq : V → V → Option Bool) (elem : TypeId) (n : Nat) (xs ys : List V) (i k : Nat) : Option Bool :=
  Nat.rec (motive := fun _ => Nat → Option Bool) (fun _ => some true) (fun _ ih i => match partV P elem xs (Nat.mul i n) with
    | none => none
    | some a => match partV P elem ys (Nat.mul i n) with
      | none => none
      | some b => match eq a b with
        | none => none
        | some r => cond r (ih (Nat.succ i)) (some false)) k i

noncomputable def eqInts (t : TypeId) (k : IntKind) (a : Int) (y : V) : Option Bool := match P.underlying t with
  | some (.int _) => match y with
    | .int k' b => cond (kBeq k k') (some (beqInt a b)) none
    | _ => none
  | _ => none
noncomputable def eqBools (t : TypeId) (a : Bool) (y : V) : Option Bool := match P.underlying t with
  | some .bool => match y with
    | .bool b => some (a == b)
    | _ => none
  | _ => none
noncomputable def eqStrs (t : TypeId) (a : List Nat) (y : V) : Option Bool := match P.underlying t with
  | some .string => match y with
    | .str b => some (beqNats a b)
    | _ => none
  | _ => none
noncomputable def eqPtr (t : TypeId) (xn : Bool) (y : V) : Option Bool := match P.underlying t with
  | some (.pointer _) => match y with
    | .nilp => some xn
    | .ptr _ _ => cond xn (some false) none
    | _ => none
  | _ => none
noncomputable def eqSls (t : TypeId) (xn : Bool) (y : V) : Option Bool := match P.underlying t with
  | some (.slice _) => match y with
    | .nils => some xn
    | .emp => cond xn (some false) none
    | .sl _ _ _ _ => cond xn (some false) none
    | _ => none
  | _ => none
noncomputable def eqFns (t : TypeId) (xn : Bool) (y : V) : Option Bool := match P.underlying t with
  | some (.func _ _ _) => match y with
    | .nilf => some xn
    | .fn _ _ _ => cond xn (some false) none
    | _ => none
  | _ => none
noncomputable def eqAggs (eq : TypeId → V → V → Option Bool) (t : TypeId) (xs : List V) (y : V) : Option Bool := match y with
  | .agg ys => match P.underlying t with
    | some (.struct fields) => cond (P.stoodInHeld t) none (eqFields P eq xs ys fields.toList)
    | some (.array len elem) => match szOf P elem with
      | none => none
      | some n => eqElems P (eq elem) elem n xs ys 0 len
    | _ => none
  | _ => none
noncomputable def eqV (d : Nat) : TypeId → V → V → Option Bool := Nat.rec (motive := fun _ => TypeId → V → V → Option Bool) (fun _ _ _ => none)
  (fun _ ih t x y => match x with
    | .int k a => eqInts P t k a y
    | .bool a => eqBools P t a y
    | .str a => eqStrs P t a y
    | .nilp => eqPtr P t true y
    | .ptr _ _ => eqPtr P t false y
    | .nils => eqSls P t true y
    | .emp => eqSls P t false y
    | .sl _ _ _ _ => eqSls P t false y
    | .nilf => eqFns P t true y
    | .fn _ _ _ => eqFns P t false y
    | .agg xs => eqAggs P ih t xs y
    | _ => none) d

def lim : IntKind → Nat
  | .i8 => 128 | .i16 => 32768 | .i32 => 2147483648 | .i64 => 9223372036854775808
  | .u8 => 256 | .u16 => 65536 | .u32 => 4294967296 | .u64 => 18446744073709551616
def full : IntKind → Nat
  | .i8 => 256 | .i16 => 65536 | .i32 => 4294967296 | .i64 => 18446744073709551616
  | .u8 => 256 | .u16 => 65536 | .u32 => 4294967296 | .u64 => 18446744073709551616
def isU : IntKind → Bool
  | .u8 => true
  | .u16 => true
  | .u32 => true
  | .u64 => true
  | _ => false
/-- a number from 0 on, wrapped -/
noncomputable def wrapN (k : IntKind) (n : Nat) : Int :=
  cond (Nat.blt n (lim k)) (.ofNat n) (cond (isU k) (force (Nat.mod n (full k)) fun m => .ofNat m) (forceI (k.wrap (.ofNat n)) fun r => r))
noncomputable def wrapI (k : IntKind) (n : Int) : Int := Int.rec (motive := fun _ => Int) (fun m => force m fun m => wrapN k m) (fun m => forceI (k.wrap (.negSucc m)) fun r => r) n
noncomputable def bitsOf (k : IntKind) (n : Int) : Nat := Int.rec (motive := fun _ => Nat) (fun m => cond (Nat.blt m (full k)) m (Nat.mod m (full k))) (fun m => Nat.sub (Nat.sub (full k) 1) (Nat.mod m (full k))) n
noncomputable def addI (a b : Int) : Int := Int.rec (motive := fun _ => Int) (fun x => Int.rec (motive := fun _ => Int) (fun y => .ofNat (Nat.add x y)) (fun _ => a + b) b) (fun _ => a + b) a
noncomputable def subI (a b : Int) : Int := Int.rec (motive := fun _ => Int) (fun x => Int.rec (motive := fun _ => Int) (fun y => cond (Nat.ble y x) (.ofNat (Nat.sub x y)) (a - b)) (fun _ => a - b) b) (fun _ => a - b) a
noncomputable def mulI (a b : Int) : Int := Int.rec (motive := fun _ => Int) (fun x => Int.rec (motive := fun _ => Int) (fun y => .ofNat (Nat.mul x y)) (fun _ => a * b) b) (fun _ => a * b) a
noncomputable def shrI (a : Int) (n : Nat) : Int := Int.rec (motive := fun _ => Int) (fun x => .ofNat (Nat.div x (Nat.pow 2 n))) (fun _ => a.fdiv (2 ^ n)) a
noncomputable def shlI (a : Int) (n : Nat) : Int := Int.rec (motive := fun _ => Int) (fun x => .ofNat (Nat.mul x (Nat.pow 2 n))) (fun _ => a * 2 ^ n) a
noncomputable def quoI (a b : Int) : Int := Int.rec (motive := fun _ => Int) (fun x => Int.rec (motive := fun _ => Int) (fun y => .ofNat (Nat.div x y)) (fun _ => a.tdiv b) b) (fun _ => a.tdiv b) a
noncomputable def remI (a b : Int) : Int := Int.rec (motive := fun _ => Int) (fun x => Int.rec (motive := fun _ => Int) (fun y => .ofNat (Nat.mod x y)) (fun _ => a.tmod b) b) (fun _ => a.tmod b) a
noncomputable def intV (k : IntKind) (n : Int) : Option V := forceI n fun n => some (.int k n)
structure BxI where
  run : IntKind → Int → Int → Option V
noncomputable def cInt (op : BinOp) : BxI := match op with
  | .add => ⟨fun k a b => intV k (wrapI k (addI a b))⟩
  | .sub => ⟨fun k a b => intV k (wrapI k (subI a b))⟩
  | .mul => ⟨fun k a b => intV k (wrapI k (mulI a b))⟩
  | .quo => ⟨fun k a b => cond (beqInt b 0) none (intV k (wrapI k (quoI a b)))⟩
  | .rem => ⟨fun k a b => cond (beqInt b 0) none (intV k (remI a b))⟩
  | .and => ⟨fun k a b => intV k (wrapN k (Nat.land (bitsOf k a) (bitsOf k b)))⟩
  | .or => ⟨fun k a b => intV k (wrapN k (Nat.lor (bitsOf k a) (bitsOf k b)))⟩
  | .xor => ⟨fun k a b => intV k (wrapN k (Nat.xor (bitsOf k a) (bitsOf k b)))⟩
  | .andNot => ⟨fun k a b => intV k (wrapN k (Nat.land (bitsOf k a) (Nat.xor (bitsOf k b) (Nat.sub (full k) 1))))⟩
  | .eql => ⟨fun _ a b => some (.bool (beqInt a b))⟩
  | .neq => ⟨fun _ a b => some (.bool (not (beqInt a b)))⟩
  | .lss => ⟨fun _ a b => some (.bool (ltInt a b))⟩
  | .leq => ⟨fun _ a b => some (.bool (not (ltInt b a)))⟩
  | .gtr => ⟨fun _ a b => some (.bool (ltInt b a))⟩
  | .geq => ⟨fun _ a b => some (.bool (not (ltInt a b)))⟩
  | _ => ⟨fun _ _ _ => none⟩
noncomputable def binI (op : BinOp) (k : IntKind) (a b : Int) : Option V := BxI.rec (motive := fun _ => Option V) (fun f => f k a b) (cInt op)
noncomputable def binSh (op : BinOp) (k : IntKind) (a : Int) (n : Nat) : Option V := match op with
  | .shl => intV k (wrapI k (shlI a n))
  | .shr => intV k (shrI a n)
  | _ => none
noncomputable def isSh (op : BinOp) : Bool := match op with
  | .shl => true
  | .shr => true
  | _ => false
noncomputable def binStr (op : BinOp) (a b : List Nat) : Option V := match op with
  | .eql => some (.bool (beqNats a b))
  | .neq => some (.bool (not (beqNats a b)))
  | _ => none
noncomputable def boolV (neg : Bool) (o : Option Bool) : Option V := match o with
  | some b => some (.bool (xor neg b))
  | none => none
noncomputable def binEq (op : BinOp) (t : TypeId) (x y : V) : Option V := match op with
  | .eql => cond (P.eqGuardType P.depth t) none (boolV false (eqV P 10000 t x y))
  | .neq => cond (P.eqGuardType P.depth t) none (boolV true (eqV P 10000 t x y))
  | _ => none
noncomputable def minN (a b : Nat) : Nat := cond (Nat.ble a b) a b
noncomputable def binInt (op : BinOp) (k : IntKind) (a : Int) (k' : IntKind) (b : Int) : Option V :=
  cond (isSh op) (match asNat (.int k' b) with
    | some n => binSh op k a (minN n k.bits)
    | none => none) (cond (kBeq k k') (binI op k a b) none)
noncomputable def binV (op : BinOp) (t : TypeId) (x y : V) : Option V := match x with
  | .int k a => match y with
    | .int k' b => binInt op k a k' b
    | _ => none
  | .str a => match y with
    | .str b => binStr op a b
    | _ => none
  | x => binEq P op t x y
noncomputable def unV (op : UnOp) (x : V) : Option V := match op with
  | .neg => match x with
    | .int k n => intV k (wrapI k (subI 0 n))
    | _ => none
  | .xor => match x with
    | .int k n => intV k (wrapN k (Nat.xor (bitsOf k n) (Nat.sub (full k) 1)))
    | _ => none
  | .not => match x with
    | .bool b => some (.bool (not b))
    | _ => none
  | _ => none

/-! ### conversions, built-in functions -/

noncomputable def byteV (c : Nat) : V := .int .u8 (Int.ofNat c)
def asByte (v : V) : Option Nat := match v with
  | .int k n => match n with
    | .ofNat m => cond (kBeq k .u8) (cond (Nat.blt m 256) (some m) none) none
    | _ => none
  | _ => none
noncomputable def asBytes (l : List V) : Option (List Nat) := match l with
  | [] => some []
  | v :: vs => match asByte v with
    | none => none
    | some x => match asBytes vs with
      | none => none
      | some xs => some (x :: xs)
noncomputable def isByteT (e : TypeId) : Bool := match P.underlying e with
  | some (.int k) => kBeq k .u8
  | _ => false
noncomputable def convInt (d : TypeId) (n : Int) : M V := match P.underlying d with
  | some (.int k) => opt 20 (intV k (wrapI k n))
  | _ => no 21
noncomputable def convStr (d : TypeId) (s : List Nat) : M V := match P.underlying d with
  | some .string => ret (.str s)
  | some (.slice e) => cond (isByteT P e) (bnd (newCells e (lMap byteV s) true) fun b => ret (.sl b 0 (lLen s) (.open_ 1))) (no 22)
  | _ => no 23
noncomputable def toStr (src d : TypeId) (m : M (List V)) : M V := match P.underlying src with
  | some (.slice e) => cond (isByteT P e) (match P.underlying d with
    | some .string => bnd m fun cs => bnd (opt 24 (asBytes cs)) fun bs => ret (.str bs)
    | _ => no 25) (no 26)
  | _ => no 27
/-- does a variable of type u begin at the block's first cell? -/
noncomputable def seenAs (u : TypeId) (x : B) : Bool := match x with
  | .cells t n _ _ => match szOf P t with
    | some k => and (Nat.beq (P.underlyingId t) (P.underlyingId u)) (and (Nat.blt 0 k) (Nat.ble k n))
    | none => false
  | _ => false
noncomputable def convPtr (src d : TypeId) (b o : Nat) : M V := match P.underlying src with
  | some (.pointer t) => match P.underlying d with
    | some .unsafePointer => bnd (loadCellsB b o 1) fun _ => match szOf P t with
      | some n => cond (Nat.beq n 0) (no 28) (ret (.ptr b o))
      | none => no 29
    | _ => no 30
  | some .unsafePointer => match P.underlying d with
    | some (.pointer u) => match szOf P u with
      | some _ => bnd (getB b) fun x => cond (and (Nat.beq o 0) (seenAs P u x)) (ret (.ptr b o)) (no 185)
      | none => no 186
    | _ => no 187
  | _ => no 31
noncomputable def convNil (src d : TypeId) : M V := match P.underlying src with
  | some (.pointer _) => match P.underlying d with
    | some .unsafePointer => ret .nilp
    | _ => no 188
  | some .unsafePointer => match P.underlying d with
    | some (.pointer _) => ret .nilp
    | _ => no 189
  | _ => no 190
noncomputable def hasU (t : TypeId) : Bool := match P.underlying t with
  | some _ => true
  | none => false
noncomputable def convB (src d : TypeId) (x : V) : M V := match x with
  | .int _ n => cond (hasU P src) (convInt P d n) (no 197)
  | .str s => cond (hasU P src) (convStr P d s) (no 198)
  | .nils => toStr P src d (ret [])
  | .sl b off len _ => toStr P src d (loadCellsB b off len)
  | .ptr b o => convPtr P src d b o
  | .nilp => convNil P src d
  | _ => no 32

noncomputable def srcCells (sz : Nat) (x : V) : M (List V) := match x with
  | .nils => ret []
  | .emp => ret []
  | .sl b off len _ => loadCellsB b off (Nat.mul len sz)
  | .str s => ret (lMap byteV s)
  | _ => no 33
noncomputable def srcLen (x : V) : Option Nat := match x with
  | .nils => some 0
  | .emp => some 0
  | .sl _ _ len _ => some len
  | .str s => some (lLen s)
  | _ => none

noncomputable def isIntT (t : TypeId) : Bool := match P.underlying t with
  | some (.int _) => true
  | _ => false

noncomputable def bytesOk (e : TypeId) (c : Nat) : Bool := match P.info? e with
  | some i => Nat.ble (Nat.mul i.bytes c) 1073741824
  | none => false
noncomputable def zOk (e : TypeId) (sz : Nat) : Bool := match zeroV P e with
  | some z => Nat.beq (lLen z.cells) sz
  | none => false
/-- a row of so many elements may be made -/
noncomputable def growOk (e : TypeId) (sz k : Nat) : Bool := cond (zOk P e sz) (cond (bytesOk P e k) (Nat.blt k 1048576) false) false
noncomputable def apNew (e : TypeId) (sz m : Nat) (c : List V) : M V := cond (growOk P e sz m) (bnd (newB (.cells e (Nat.mul m sz) c false)) fun b => ret (.sl b 0 m (.open_ sz))) (no 193)
noncomputable def apGrow1 (e : TypeId) (sz : Nat) (off len k : Nat) (cs c : List V) : M V :=
  cond (growOk P e sz k) (bnd (newB (.cells e (Nat.mul k sz) (lApp (lTake (Nat.mul len sz) (lDrop off cs)) c) false)) fun b' => ret (.sl b' 0 k (.open_ sz))) (no 194)
noncomputable def apGrow (e : TypeId) (sz : Nat) (off len m n : Nat) (cs c : List V) : M V :=
  cond (Nat.ble (Nat.add off (Nat.mul len sz)) n) (force (Nat.add len m) fun k => apGrow1 P e sz off len k cs c) (no 34)
noncomputable def apRoom (sz : Nat) (b off len m : Nat) (cap : Cap) (c : List V) : M V := force (Nat.add len m) fun k => bnd (storeCellsB b (Nat.add off (Nat.mul len sz)) c) fun _ => ret (.sl b off k cap)
/-- it is not known whether there is room: the old name is not to be touched any more -/
noncomputable def apMove (e : TypeId) (sz : Nat) (b off len m n : Nat) (cs c : List V) : M V :=
  cond (Nat.beq off 0) (cond (lAll V.oneC c) (bnd (modB b .dead) fun _ => apGrow P e sz off len m n cs c) (no 35)) (no 36)
noncomputable def apOpen (e : TypeId) (sz z : Nat) (b off len m : Nat) (c : List V) (x : B) : M V := match x with
  | .cells t n cs ro => cond ro (no 37) (cond (and (Nat.beq z sz) (Nat.beq t e)) (cond (Nat.ble (Nat.add off (Nat.mul (Nat.add len m) sz)) n) (apRoom sz b off len m (.open_ z) c) (apMove P e sz b off len m n cs c)) (no 38))
  | _ => no 39
noncomputable def apExact (e : TypeId) (sz : Nat) (b off len m k : Nat) (c : List V) (x : B) : M V := match x with
  | .cells _ n cs _ => cond (Nat.ble (Nat.add len m) k) (apRoom sz b off len m (.exact k) c) (apGrow P e sz off len m n cs c)
  | _ => no 40
noncomputable def apTo (e : TypeId) (sz : Nat) (s : V) (m : Nat) (c : List V) : M V := match s with
  | .nils => apNew P e sz m c
  | .sl b off len cap => match cap with
    | .exact k => bnd (getB b) (apExact P e sz b off len m k c)
    | .open_ z => bnd (getB b) (apOpen P e sz z b off len m c)
  | _ => no 41
noncomputable def apSrc (e : TypeId) (sz : Nat) (zeros : Bool) (m : Nat) (x : V) : M (List V) :=
  cond zeros (bnd (opt 42 (zeroV P e)) fun z => ret (lRep z.cells m)) (srcCells sz x)
noncomputable def isSl (s : V) : Bool := match s with
  | .nils => true
  | .emp => true
  | .sl _ _ _ _ => true
  | _ => false
noncomputable def apLen (zeros : Bool) (x : V) : Option Nat := cond zeros (asNat x) (srcLen x)
noncomputable def capLe (s : V) : Bool := match s with
  | .sl _ _ len cap => match cap with
    | .exact k => Nat.ble len k
    | .open_ _ => true
  | _ => true
noncomputable def apFit (e : TypeId) (sz : Nat) (s : V) (m : Nat) (c : List V) : M V := cond (Nat.beq (lLen c) (Nat.mul m sz)) (apTo P e sz s m c) (no 195)
noncomputable def apB (e : TypeId) (sz : Nat) (zeros : Bool) (s x : V) (m : Nat) : M V :=
  cond (and (Nat.blt 0 sz) (and (bytesOk P e m) (Nat.blt m 1048576))) (cond (isSl s) (cond (Nat.beq m 0) (cond (capLe s) (ret s) (no 196)) (bnd (apSrc P e sz zeros m x) (apFit P e sz s m))) (no 43)) (no 44)
noncomputable def append1 (t xt : TypeId) (s x : V) : M V :=
  bnd (opt 45 (elemT P t)) fun e => bnd (opt 46 (szOf P e)) fun sz => bnd (opt 47 (apLen (isIntT P xt) x)) fun m => force m fun m => apB P e sz (isIntT P xt) s x m
noncomputable def appendB (t xt : TypeId) (s x : V) : M V := cond (hasU P xt) (append1 P t xt s x) (no 200)

def isStrV (x : V) : Bool := match x with
  | .str _ => true
  | _ => false
noncomputable def lenOk (t : TypeId) (x : V) : Bool := match P.underlying t with
  | some .string => isStrV x
  | some (.slice _) => isSl x
  | _ => false
noncomputable def lenV (t : TypeId) (x : V) : Option V := cond (lenOk P t x) (match srcLen x with
  | some n => intV .i64 (Int.ofNat n)
  | none => none) none
noncomputable def capV (t : TypeId) (x : V) : Option V := match elemT P t with
  | none => none
  | some _ => match x with
    | .nils => some (.int .i64 0)
    | .sl _ _ _ c => match c with
      | .exact c => intV .i64 (Int.ofNat c)
      | .open_ _ => none
    | _ => none
noncomputable def mmV (max : Bool) (x y : V) : Option V := match x with
  | .int k a => match y with
    | .int k' b => cond (kBeq k k') (some (.int k (cond (cond max (ltInt a b) (ltInt b a)) b a))) none
    | _ => none
  | _ => none
noncomputable def clear1 (t : TypeId) (x : V) : M V := match x with
  | .nils => ret (.tup [])
  | .sl b off len _ => cond (Nat.beq len 0) (ret (.tup [])) (bnd (opt 48 (elemT P t)) fun e => bnd (opt 49 (zeroV P e)) fun z => bnd (storeCellsB b off (lRep z.cells len)) fun _ => ret (.tup []))
  | _ => no 50
noncomputable def clearB (t : TypeId) (x : V) : M V := cond (hasU P t) (clear1 P t x) (no 199)
noncomputable def copyB (t : TypeId) (d x : V) : M V :=
  bnd (opt 51 (elemT P t)) fun e => bnd (opt 52 (szOf P e)) fun sz => bnd (opt 53 (srcLen x)) fun n => match d with
    | .sl b off len _ => match x with
      | .sl b2 off2 _ _ => force (minN n len) fun k => bnd (loadCellsB b2 off2 (Nat.mul k sz)) fun c => bnd (storeCellsB b off c) fun _ => ret (.int .i64 (Int.ofNat k))
      | _ => no 54
    | _ => no 55
noncomputable def builtinB (b : Builtin) (ts : List TypeId) (args : List V) : M V := match b with
  | .len => match args with
    | [x] => match ts with
      | [t] => opt 56 (lenV P t x)
      | _ => no 191
    | _ => no 57
  | .cap => match args with
    | [x] => match ts with
      | [t] => opt 58 (capV P t x)
      | _ => no 192
    | _ => no 59
  | .append => match args with
    | [s, x] => match ts with
      | [t, xt] => appendB P t xt s x
      | _ => no 60
    | _ => no 61
  | .copy => match args with
    | [d, x] => match ts with
      | [t, _] => copyB P t d x
      | _ => no 62
    | _ => no 63
  | .min => match args with
    | [x, y] => opt 64 (mmV false x y)
    | _ => no 65
  | .max => match args with
    | [x, y] => opt 66 (mmV true x y)
    | _ => no 67
  | .clear => match args with
    | [x] => match ts with
      | [t] => clearB P t x
      | _ => no 68
    | _ => no 69
  | _ => no 70

/-! ### maps -/

def keyEq (x y : V) : Option Bool := match x with
  | .int k a => match y with
    | .int k' b => cond (kBeq k k') (some (beqInt a b)) none
    | _ => none
  | .str a => match y with
    | .str b => some (beqNats a b)
    | _ => none
  | _ => none
noncomputable def findV (k : V) (es : List (V × V)) : Option (Option V) := match es with
  | [] => some none
  | (a, v) :: es => match keyEq k a with
    | none => none
    | some r => cond r (some (some v)) (findV k es)
noncomputable def updV (k v : V) (es : List (V × V)) : Option (List (V × V)) := match es with
  | [] => some [(k, v)]
  | (a, u) :: es => match keyEq k a with
    | none => none
    | some r => cond r (some ((k, v) :: es)) (match updV k v es with
      | some l => some ((a, u) :: l)
      | none => none)
noncomputable def okKey (t : TypeId) (v : V) : Bool := match P.underlying t with
  | some (.int k) => match v with
    | .int j _ => kBeq j k
    | _ => false
  | some .string => match v with
    | .str _ => true
    | _ => false
  | _ => false
noncomputable def mapT (t : TypeId) : Option (TypeId × TypeId) := match P.underlying t with
  | some (.map k e) => some (k, e)
  | _ => none
noncomputable def tupOk (ok : Bool) (v : V) (b : Bool) : V := cond ok (.tup [v, .bool b]) v
noncomputable def lookIn (e : TypeId) (k : V) (ok : Bool) (es : List (V × V)) : M V := match findV k es with
  | none => no 71
  | some o => match o with
    | some v => ret (tupOk ok v true)
    | none => bnd (opt 72 (zeroV P e)) fun z => ret (tupOk ok z false)
noncomputable def bMap (b : B) : M (List (V × V)) := match b with
  | .map es => ret es
  | _ => no 73
noncomputable def mapEs (x : V) : M (List (V × V)) := match x with
  | .nilm => ret []
  | .map b => bnd (getB b) bMap
  | _ => no 74
noncomputable def lookupB (t : TypeId) (x k : V) (ok : Bool) : M V :=
  bnd (opt 75 (mapT P t)) fun p => cond (okKey P p.1 k) (bnd (mapEs x) (lookIn P p.2 k ok)) (no 76)
noncomputable def mapUpdB (t : TypeId) (m k v : V) : M Unit :=
  bnd (opt 77 (mapT P t)) fun p => cond (okKey P p.1 k) (match m with
    | .map b => bnd (getB b) fun x => bnd (bMap x) fun es => bnd (opt 78 (updV k v es)) fun es' => modB b (.map es')
    | _ => no 79) (no 80)

/-! ### functions without a body -/

inductive Ext where
  | load (k : IntKind) | loadp | store | cas (k : IntKind) | add (k : IntKind) | mark | mark0 | cmp

def extOf (name : String) : Option Ext :=
  if name == "sync/atomic.LoadUint32" then some (.load .u32)
  else if name == "sync/atomic.LoadInt64" then some (.load .i64)
  else if name == "sync/atomic.LoadPointer" then some .loadp
  else if name == "sync/atomic.StoreUint32" then some .store
  else if name == "sync/atomic.StoreInt64" then some .store
  else if name == "sync/atomic.StorePointer" then some .store
  else if name == "sync/atomic.CompareAndSwapInt32" then some (.cas .i32)
  else if name == "sync/atomic.AddInt32" then some (.add .i32)
  else if name == "sync/atomic.AddInt64" then some (.add .i64)
  else if name == "internal/race.Acquire" then some .mark
  else if name == "internal/race.ReleaseMerge" then some .mark
  else if name == "internal/race.Disable" then some .mark0
  else if name == "internal/race.Enable" then some .mark0
  else if name == "internal/bytealg.abigen_runtime_cmpstring" then some .cmp
  else none

noncomputable def atLoad (k : IntKind) (l : List V) : M V := match l with
  | [v] => match v with
    | .int k' n => cond (kBeq k k') (ret (.int k' n)) (no 81)
    | _ => no 82
  | _ => no 83
noncomputable def atLoadP (l : List V) : M V := match l with
  | [v] => match v with
    | .nilp => ret .nilp
    | .ptr x o => ret (.ptr x o)
    | _ => no 84
  | _ => no 85
noncomputable def rwOk (x : B) : M Unit := match x with
  | .cells _ _ _ ro => cond ro (no 202) (ret ())
  | _ => no 203
noncomputable def atCas (k : IntKind) (b off : Nat) (old : Int) (new : V) (l : List V) : M V := match l with
  | [v] => match v with
    | .int k' n => cond (kBeq k k') (cond (beqInt n old) (bnd (storeCellsB b off [new]) fun _ => ret (.bool true)) (ret (.bool false))) (no 86)
    | _ => no 87
  | _ => no 88
noncomputable def atAdd (k : IntKind) (b off : Nat) (y : Int) (l : List V) : M V := match l with
  | [v] => match v with
    | .int k' n => cond (kBeq k k') (bnd (opt 89 (intV k (wrapI k (addI n y)))) fun r => bnd (storeCellsB b off [r]) fun _ => ret r) (no 90)
    | _ => no 91
  | _ => no 92
noncomputable def extB (e : Ext) (args : List V) : M V := match e with
  | .load k => match args with
    | [.ptr b off] => bnd (loadCellsB b off 1) (atLoad k)
    | _ => no 93
  | .loadp => match args with
    | [.ptr b off] => bnd (loadCellsB b off 1) atLoadP
    | _ => no 94
  | .store => match args with
    | [.ptr b off, v] => bnd (storeCellsB b off [v]) fun _ => ret (.tup [])
    | _ => no 95
  | .cas k => match args with
    | [.ptr b off, .int k2 old, .int k3 new] => cond (and (kBeq k k2) (kBeq k k3)) (bnd (getB b) fun x => bnd (rwOk x) fun _ => bnd (loadCellsB b off 1) (atCas k b off old (.int k3 new))) (no 96)
    | _ => no 97
  | .add k => match args with
    | [.ptr b off, .int k2 y] => cond (kBeq k k2) (bnd (loadCellsB b off 1) (atAdd k b off y)) (no 98)
    | _ => no 99
  | .mark => match args with
    | [.ptr _ _] => ret (.tup [])
    | _ => no 100
  | .mark0 => match args with
    | [] => ret (.tup [])
    | _ => no 101
  | .cmp => match args with
    | [.str a, .str b] => ret (.int .i64 (cmpNats a b))
    | _ => no 102

/-! ### operations -/

inductive Nx where
  | val (v : V)
  | skip
  | call (f : FuncId) (args : List V)
  | dfr (f : FuncId) (args : List V)

noncomputable def nval (m : M V) : M Nx := bnd m fun v => ret (.val v)
noncomputable def nunit (m : M Unit) : M Nx := bnd m fun _ => ret .skip

noncomputable def evM (a : A) (x : Operand) : M V := opt 110 (a.eval x)
noncomputable def pick2 (a : A) (x y : Operand) (v : V) : M V := match v with
  | .bool b => cond b (evM a x) (evM a y)
  | _ => no 111
noncomputable def opPick (a : A) (c x y : Operand) : M V := bnd (evM a c) (pick2 a x y)
noncomputable def opAlloc (t : TypeId) : M V := bnd (opt 112 (zeroV P t)) (newVarB t)
noncomputable def placeS (fs : Array Field) (i : Nat) : Option (Nat × Nat) := match fs[i]? with
  | none => none
  | some f => match szOf P f.type with
    | none => none
    | some n => some (f.offset, n)
noncomputable def placeE (n i : Nat) : Option (Nat × Nat) := some (Nat.mul i n, n)
noncomputable def aggO (o : Option (List V)) : Option V := match o with
  | some l => some (.agg l)
  | none => none
noncomputable def allSz (fs : List Field) : Bool := match fs with
  | [] => true
  | f :: rest => match szOf P f.type with
    | some _ => allSz rest
    | none => false
noncomputable def buildCells (t : TypeId) (z : List V) (ps : List (Nat × V)) : Option V := match P.underlying t with
  | some (.struct fs) => cond (allSz P fs.toList) (aggO (fillV (placeS P fs) (lLen z) z ps)) none
  | some (.array _ e) => match szOf P e with
    | some n => aggO (fillV (placeE n) (lLen z) z ps)
    | none => none
  | _ => none
noncomputable def opBuild (a : A) (t : TypeId) (parts : Array (Nat × Operand)) : M V :=
  bnd (opt 113 (a.evalPairs parts.toList)) fun ps => bnd (opt 114 (zeroV P t)) fun z => opt 115 (buildCells P t z.cells ps)
noncomputable def bsCells (len n : Nat) (z : V) (ps : List (Nat × V)) : Option (List V) :=
  cond (and (Nat.beq (lLen z.cells) n) (and (Nat.blt 0 n) (Nat.blt (Nat.mul len n) 1048576))) (fillV (placeE n) (Nat.mul len n) (lRep z.cells len) ps) none
noncomputable def opBuildSlice (a : A) (t : TypeId) (len : Nat) (parts : Array (Nat × Operand)) : M V :=
  bnd (opt 116 (a.evalPairs parts.toList)) fun ps => bnd (opt 117 (elemT P t)) fun e => bnd (opt 118 (szOf P e)) fun n => bnd (opt 119 (zeroV P e)) fun z =>
  bnd (opt 120 (bsCells len n z ps)) fun cs => bnd (newB (.cells e (Nat.mul len n) cs false)) fun b => ret (.sl b 0 len (.exact len))
noncomputable def ldV (t : TypeId) (v : V) : M V := match v with
  | .ptr b off => loadVarB P t b off
  | _ => no 121
noncomputable def opLoad (a : A) (t : TypeId) (x : Operand) : M V := bnd (evM a x) (ldV P t)
noncomputable def stV (t : TypeId) (v p : V) : M Unit := match p with
  | .ptr b off => storeVarB P t b off v
  | _ => no 122
noncomputable def opStore (a : A) (t : TypeId) (x v : Operand) : M Unit := bnd (evM a v) fun v => bnd (evM a x) (stV P t v)
noncomputable def nilChk (v : V) : M V := match v with
  | .ptr b o => ret (.ptr b o)
  | .fn f a b => ret (.fn f a b)
  | _ => no 123
noncomputable def opBin (a : A) (op : BinOp) (t : TypeId) (x y : Operand) : M V := bnd (evM a x) fun x => bnd (evM a y) fun y => opt 124 (binV P op t x y)
noncomputable def opUn (a : A) (op : UnOp) (x : Operand) : M V := bnd (evM a x) fun x => opt 125 (unV op x)
noncomputable def opConv (a : A) (s d : TypeId) (x : Operand) : M V := bnd (evM a x) (convB P s d)
noncomputable def opFunc (a : A) (f : FuncId) (first captured : Array Operand) : M V :=
  bnd (opt 126 (a.evals first.toList)) fun fs => bnd (opt 127 (a.evals captured.toList)) fun cs => ret (.fn f fs cs)
noncomputable def opMakeMap : M V := bnd (newB (.map [])) fun b => ret (.map b)
noncomputable def mkSlice (e : TypeId) (sz : Nat) (z : V) (l c : Nat) : M V :=
  cond (and (Nat.ble l c) (and (Nat.beq (lLen z.cells) sz) (and (Nat.blt 0 sz) (Nat.blt (Nat.mul c sz) 1048576)))) (bnd (newB (.cells e (Nat.mul c sz) (lRep z.cells c) false)) fun b => ret (.sl b 0 l (.exact c))) (no 128)
noncomputable def opMakeSlice (a : A) (t : TypeId) (l c : Operand) : M V :=
  bnd (opt 129 (elemT P t)) fun e => bnd (opt 130 (szOf P e)) fun sz => bnd (opt 131 (zeroV P e)) fun z =>
  bnd (evM a l) fun l => bnd (evM a c) fun c => bnd (opt 132 (asNat l)) fun l => bnd (opt 133 (asNat c)) fun c => force l fun l => force c fun c => cond (bytesOk P e c) (mkSlice e sz z l c) (no 134)
noncomputable def evO (a : A) (o : Option Operand) : M (Option V) := match o with
  | none => ret none
  | some y => bnd (evM a y) fun v => ret (some v)
noncomputable def opSlice (a : A) (t : TypeId) (x : Operand) (lo hi mx : Option Operand) : M V :=
  bnd (evM a x) fun x => bnd (evO a lo) fun lo => bnd (evO a hi) fun hi => bnd (evO a mx) fun mx => opt 135 (sliceV P t x lo hi mx)
noncomputable def fieldOf (t : TypeId) (i : Nat) : Option Field := match P.underlying t with
  | some (.struct fs) => fs[i]?
  | _ => none
noncomputable def fieldOff (t : TypeId) (i : Nat) : Option Nat := match fieldOf P t i with
  | none => none
  | some f => match szOf P f.type with
    | some n => cond (Nat.beq n 0) none (some f.offset)
    | none => none
noncomputable def addOff (b off : Nat) (o : Nat) : M V := force (Nat.add off o) fun o => ret (.ptr b o)
noncomputable def faV (t : TypeId) (i : Nat) (x : V) : M V := match x with
  | .ptr b off => bnd (opt 136 (fieldOff P t i)) (addOff b off)
  | _ => no 137
noncomputable def opFieldAddr (a : A) (t : TypeId) (x : Operand) (i : Nat) : M V := bnd (evM a x) (faV P t i)
noncomputable def fdV (t : TypeId) (i : Nat) (x : V) : M V := match x with
  | .agg cs => bnd (opt 138 (fieldOf P t i)) fun f => opt 139 (partV P f.type cs f.offset)
  | _ => no 140
noncomputable def opField (a : A) (t : TypeId) (x : Operand) (i : Nat) : M V := bnd (evM a x) (fdV P t i)
noncomputable def opIndexAddr (a : A) (t : TypeId) (x i : Operand) : M V := bnd (evM a x) fun x => bnd (evM a i) fun i => opt 141 (indexAddrV P t x i)
noncomputable def indexV (t : TypeId) (x : V) (i : Nat) : Option V := match x with
  | .str s => match P.underlying t with
    | some .string => match lGet i s with
      | some b => some (byteV b)
      | none => none
    | _ => none
  | .agg cs => match P.underlying t with
    | some (.array n e) => match szOf P e with
      | some sz => cond (Nat.blt i n) (partV P e cs (Nat.mul i sz)) none
      | none => none
    | _ => none
  | _ => none
noncomputable def opIndex (a : A) (t : TypeId) (x i : Operand) : M V := bnd (evM a x) fun x => bnd (evM a i) fun i => bnd (opt 142 (asNat i)) fun i => opt 143 (indexV P t x i)
noncomputable def opLookup (a : A) (t : TypeId) (x i : Operand) (ok : Bool) : M V := bnd (evM a x) fun x => bnd (evM a i) fun i => lookupB P t x i ok
noncomputable def opMapUpd (a : A) (t : TypeId) (m k x : Operand) : M Unit := bnd (evM a m) fun m => bnd (evM a k) fun k => bnd (evM a x) fun x => mapUpdB P t m k x
noncomputable def extractV (i : Nat) (v : V) : M V := match v with
  | .tup vs => opt 144 (lGet i vs)
  | _ => no 145
noncomputable def opExtract (a : A) (t : Operand) (i : Nat) : M V := bnd (evM a t) (extractV i)
noncomputable def calleeF (args : List V) (v : V) : Option (FuncId × List V) := match v with
  | .fn f first captured => some (f, lApp first (lApp args captured))
  | _ => none
/-- a call of a function: one without a body is done on the spot -/
noncomputable def callNx (p : FuncId × List V) : M Nx := match P.funcs[p.1]? with
  | none => no 146
  | some fn => match fn.body with
    | some _ => ret (.call p.1 p.2)
    | none => cond (fn.origin == "") (match extOf fn.name with
      | some e => nval (extB e p.2)
      | none => no 147) (no 201)
noncomputable def opCallV (a : A) (f : Operand) (args : List V) : M Nx := bnd (evM a f) fun f => bnd (opt 148 (calleeF args f)) (callNx P)
noncomputable def dfrNx (p : FuncId × List V) : M Nx := ret (.dfr p.1 p.2)
noncomputable def opDeferV (a : A) (f : Operand) (args : List V) : M Nx := bnd (evM a f) fun f => bnd (opt 149 (calleeF args f)) dfrNx

structure BxN where
  run : A → M Nx
noncomputable def cCall (c : Call) : BxN := match c.callee with
  | .builtin b => ⟨fun a => bnd (opt 150 (a.evals c.args.toList)) fun args => nval (builtinB P b c.argTypes.toList args)⟩
  | .value f => ⟨fun a => bnd (opt 151 (a.evals c.args.toList)) (opCallV P a f)⟩
  | .invoke _ _ => ⟨fun _ => no 152⟩
noncomputable def cDefer (c : Call) : BxN := match c.callee with
  | .value f => ⟨fun a => bnd (opt 153 (a.evals c.args.toList)) (opDeferV a f)⟩
  | _ => ⟨fun _ => no 154⟩
noncomputable def cOp (op : Op) : BxN := match op with
  | .move x => ⟨fun a => nval (evM a x)⟩
  | .assign x => ⟨fun a => nval (evM a x)⟩
  | .pick c x y => ⟨fun a => nval (opPick a c x y)⟩
  | .alloc t => ⟨fun _ => nval (opAlloc P t)⟩
  | .box t x => ⟨fun a => nval (bnd (evM a x) (newVarB t))⟩
  | .build t parts => ⟨fun a => nval (opBuild P a t parts)⟩
  | .buildSlice t len parts => ⟨fun a => nval (opBuildSlice P a t len parts)⟩
  | .load t x => ⟨fun a => nval (opLoad P a t x)⟩
  | .store t x v => ⟨fun a => nunit (opStore P a t x v)⟩
  | .nilCheck x => ⟨fun a => nval (bnd (evM a x) nilChk)⟩
  | .binOp op t x y _ => ⟨fun a => nval (opBin P a op t x y)⟩
  | .unOp op _ x => ⟨fun a => nval (opUn a op x)⟩
  | .convert s d x => ⟨fun a => nval (opConv P a s d x)⟩
  | .makeFunc (.func f) first captured => ⟨fun a => nval (opFunc a f first captured)⟩
  | .makeMap _ none => ⟨fun _ => nval opMakeMap⟩
  | .makeSlice t l c => ⟨fun a => nval (opMakeSlice P a t l c)⟩
  | .slice t x lo hi mx => ⟨fun a => nval (opSlice P a t x lo hi mx)⟩
  | .fieldAddr t x i => ⟨fun a => nval (opFieldAddr P a t x i)⟩
  | .field t x i => ⟨fun a => nval (opField P a t x i)⟩
  | .indexAddr t x i => ⟨fun a => nval (opIndexAddr P a t x i)⟩
  | .index t x i => ⟨fun a => nval (opIndex P a t x i)⟩
  | .lookup t x i ok => ⟨fun a => nval (opLookup P a t x i ok)⟩
  | .mapUpdate t m k x => ⟨fun a => nunit (opMapUpd P a t m k x)⟩
  | .extract t i => ⟨fun a => nval (opExtract a t i)⟩
  | .call c => cCall P c
  | .defer c => cDefer c
  | _ => ⟨fun _ => no 155⟩
noncomputable def evalOp (a : A) (o : Oper) : M Nx := BxN.rec (motive := fun _ => M Nx) (fun f => f a) (cOp P o.op)

/-! ### code -/

inductive Ex where
  | normal
  | exit (id : Nat)
  | ret

structure Self where
  code : Code → A → M (Ex × A)
  call : FuncId → List V → M V
  dcall : FuncId → List V → M V

noncomputable def isB (want : Bool) (v : V) : Bool := match v with
  | .bool b => cond want b (not b)
  | _ => false
noncomputable def wantedV (ops : List Oper) (a : A) (o : Oper) : Bool := match o.guard with
  | none => true
  | some (j, want) => match lGet j ops with
    | none => false
    | some o' => match o'.dst with
      | none => false
      | some d => isB want (a.at d)

noncomputable def doNx (self : Self) (a : A) (dst : Option Tmp) (n : Nx) : M A := match n with
  | .val v => putM a dst v
  | .skip => putM a dst undefV
  | .call f args => bnd (self.call f args) (putM a dst)
  | .dfr f args => putM ⟨a.t, (f, args) :: a.d, a.sz⟩ dst undefV
noncomputable def doOp (self : Self) (ops : List Oper) (a : A) (o : Oper) : M A :=
  cond (wantedV ops a o) (bnd (evalOp P a o) (doNx self a o.dst)) (putM a o.dst undefV)
noncomputable def doOps (self : Self) (ops : List Oper) (l : List Oper) (a : A) : M A := match l with
  | [] => ret a
  | o :: rest => bnd (doOp P self ops a o) (doOps self ops rest)

/-! regions that draw their order -/
def bindsE (e : Edge) : Bool := match e.ground with
  | .textOnly _ => false
  | .gcOnly _ => false
  | _ => true
/-- the numbers of the operations that an operation waits for, as a mask -/
def waits (acc : List Nat) (es : List Edge) : Nat := match es with
  | [] => 0
  | e :: rest => cond (bindsE e) (Nat.lor (Nat.lor (Nat.shiftLeft 1 e.on) (acc.getD e.on 0)) (waits acc rest)) (waits acc rest)
def preds (ops : List Oper) (acc : List Nat) : List Nat := match ops with
  | [] => acc
  | o :: rest => preds rest (acc ++ [waits acc o.after.toList])

/-- no clash of operation i with one behind it that does not wait for it -/
noncomputable def clash1 (i ri wi : Nat) (ps : List Nat) (ms : List (Nat × Nat)) : Bool := match ps with
  | [] => true
  | p :: ps => match ms with
    | [] => true
    | (rj, wj) :: ms => cond (Nat.testBit p i) (clash1 i ri wi ps ms) (cond (Nat.beq (Nat.land wi (Nat.lor rj wj)) 0) (cond (Nat.beq (Nat.land ri wj) 0) (clash1 i ri wi ps ms) false) false)
noncomputable def clashes (i : Nat) (ps : List Nat) (ms : List (Nat × Nat)) : Bool := match ps with
  | [] => true
  | _ :: ps => match ms with
    | [] => true
    | (ri, wi) :: ms => cond (clash1 i ri wi ps ms) (clashes (Nat.succ i) ps ms) false

noncomputable def mergeM (r0 w0 : Nat) (ms : List (Nat × Nat)) (k : List (Nat × Nat) → A → M A) (a : A) : M A := fun s => S.rec (motive := fun _ => R A) (fun h n r w =>
  force r fun r => force w fun w => k (lApp ms [(r, w)]) a (S.mk h n (Nat.lor r0 r) (Nat.lor w0 w))) s
noncomputable def clearM (m : M α) : M α := fun s => S.rec (motive := fun _ => R α) (fun h n _ _ => m (S.mk h n 0 0)) s
noncomputable def drawOps (self : Self) (ops : List Oper) (ps : List Nat) (l : List Oper) (ms : List (Nat × Nat)) (a : A) : M A := match l with
  | [] => cond (clashes 0 ps ms) (ret a) (no 160)
  | o :: rest => fun s => S.rec (motive := fun _ => R A) (fun h n r w => bnd (clearM (doOp P self ops a o)) (mergeM r w ms (drawOps self ops ps rest)) (S.mk h n r w)) s

/-- operation i and those behind it that do not wait for it name no temporary of one another's -/
def apart1 (ops : Array Oper) (i : Nat) (oi : Oper) (ps : List Nat) (l : List Oper) : Bool := match ps with
  | [] => true
  | p :: ps => match l with
    | [] => true
    | oj :: l => cond (or (Nat.testBit p i) (oi.apart ops oj)) (apart1 ops i oi ps l) false
def aparts (ops : Array Oper) (i : Nat) (ps : List Nat) (l : List Oper) : Bool := match ps with
  | [] => true
  | _ :: ps => match l with
    | [] => true
    | oi :: l => cond (apart1 ops i oi ps l) (aparts ops (Nat.succ i) ps l) false
def plainOp (o : Oper) : Bool := match o.op with
  | .defer _ => false
  | .select _ _ => false
  | _ => true
/-- edges lead back -/
def edgesOk (i : Nat) (l : List Oper) : Bool := match l with
  | [] => true
  | o :: l => cond (o.after.toList.all fun e => or (not (bindsE e)) (Nat.blt e.on i)) (edgesOk (Nat.succ i) l) false
def drawOk (ops : List Oper) : Bool := and (aparts ops.toArray 0 (preds ops []) ops) (and (ops.all plainOp) (edgesOk 0 ops))

structure BxC where
  run : Self → A → M (Ex × A)
noncomputable def nrm (a : A) : M (Ex × A) := ret (.normal, a)
noncomputable def cdSeq (self : Self) (y : Code) (p : Ex × A) : M (Ex × A) := match p.1 with
  | .normal => self.code y p.2
  | .exit id => ret (.exit id, p.2)
  | .ret => ret (.ret, p.2)
noncomputable def cdCond (self : Self) (x y : Code) (a : A) (v : V) : M (Ex × A) := match v with
  | .bool b => cond b (self.code x a) (self.code y a)
  | _ => no 161
noncomputable def cdBlock (id : Nat) (p : Ex × A) : M (Ex × A) := match p.1 with
  | .exit id' => cond (Nat.beq id' id) (ret (.normal, p.2)) (ret (.exit id', p.2))
  | .normal => ret (.normal, p.2)
  | .ret => ret (.ret, p.2)
noncomputable def cRegion (ops : List Oper) (draw : Bool) : BxC := match draw with
  | true => cond (drawOk ops) ⟨fun self a => bnd (drawOps P self ops (preds ops []) ops [] a) nrm⟩ ⟨fun _ _ => no 162⟩
  | false => ⟨fun self a => bnd (doOps P self ops ops a) nrm⟩
noncomputable def cCode (c : Code) : BxC := match c with
  | .skip => ⟨fun _ a => nrm a⟩
  | .label _ => ⟨fun _ a => nrm a⟩
  | .region _ ops draw => cRegion P ops.toList draw
  | .seq x y => ⟨fun self a => bnd (self.code x a) (cdSeq self y)⟩
  | .cond c x y => ⟨fun self a => bnd (evM a c) (cdCond self x y a)⟩
  | .block id body => ⟨fun self a => bnd (self.code body a) (cdBlock id)⟩
  | .loop body => ⟨fun self a => bnd (self.code body a) (cdSeq self (.loop body))⟩
  | .exit id => ⟨fun _ a => ret (.exit id, a)⟩
  | .scope body => ⟨fun self a => self.code body a⟩
  | .ret => ⟨fun _ a => ret (.ret, a)⟩
  | _ => ⟨fun _ _ => no 163⟩
noncomputable def stCode (self : Self) (c : Code) (a : A) : M (Ex × A) := BxC.rec (motive := fun _ => M (Ex × A)) (fun f => f self a) (cCode P c)

/-! ### calls -/

noncomputable def runDefers (self : Self) (l : List (FuncId × List V)) : M Unit := match l with
  | [] => ret ()
  | (f, args) :: rest => bnd (self.dcall f args) fun _ => runDefers self rest
noncomputable def resV (a : A) (r : ResultVar) : M V := match r with
  | .tmp i => ret (a.at i)
  | .cell i t => ldV P t (a.at i)
noncomputable def getResults (a : A) (l : List ResultVar) : M (List V) := match l with
  | [] => ret []
  | r :: rest => bnd (resV P a r) fun v => bnd (getResults a rest) fun vs => ret (v :: vs)
noncomputable def initT (l : List V) (i : Nat) (t : Tr V) : Tr V := match l with
  | [] => t
  | v :: vs => initT vs (Nat.succ i) (t.set i v)
def one (vs : List V) : V := match vs with
  | [v] => v
  | vs => .tup vs
noncomputable def results1 (fn : Func) (a : A) : M V := bnd (getResults P a fn.results.toList) fun vs => ret (one vs)
noncomputable def stEnd (self : Self) (fn : Func) (p : Ex × A) : M V := match p.1 with
  | .exit _ => no 170
  | _ => bnd (runDefers self p.2.d) fun _ => results1 P fn p.2
noncomputable def stEndD (fn : Func) (p : Ex × A) : M V := match p.1 with
  | .exit _ => no 171
  | _ => match p.2.d with
    | [] => results1 P fn p.2
    | _ => no 172
noncomputable def begA (fn : Func) (args : List V) : A := force (Nat.add (lLen args) (Nat.sub fn.ntmps (lLen args))) fun sz => A.mk (initT args 0 .nil) [] sz
noncomputable def stFn (self : Self) (fn : Func) (args : List V) : M V := match fn.body with
  | none => no 173
  | some body => bnd (self.code body (begA fn args)) (stEnd P self fn)
noncomputable def stFnD (self : Self) (fn : Func) (args : List V) : M V := match fn.body with
  | none => no 174
  | some body => bnd (self.code body (begA fn args)) (stEndD P fn)

variable (orc : FuncId → Option (List V → M V))
structure BxF where
  run : Self → List V → M V
noncomputable def cFn (f : FuncId) : BxF := match orc f with
  | some m => ⟨fun _ args => m args⟩
  | none => match P.funcs[f]? with
    | none => ⟨fun _ _ => no 175⟩
    | some fn => ⟨fun self args => stFn P self fn args⟩
noncomputable def stCall (self : Self) (f : FuncId) (args : List V) : M V := BxF.rec (motive := fun _ => M V) (fun g => g self args) (cFn P orc f)
noncomputable def stDcall (self : Self) (f : FuncId) (args : List V) : M V := match P.funcs[f]? with
  | none => no 176
  | some fn => stFnD P self fn args
noncomputable def step (self : Self) : Self := ⟨stCode P self, stCall P orc self, stDcall P self⟩
noncomputable def noSelf : Self := ⟨fun _ _ => no 180, fun _ _ => no 181, fun _ _ => no 182⟩
noncomputable def evN (n : Nat) : Self := Nat.rec (motive := fun _ => Self) noSelf (fun _ s => step P orc s) n

end
end Go.Ev
