/- The mirror machine: a deterministic machine over abstract values that follows the program's code in the order of the text. Definitions alone. -/
import Derived.Orders
import Derived.Tactics
import Derived.Laws.Append
import Derived.KernelRfl
namespace Go.Proofs.Ytooiechjanmdjaa
namespace Am

/-- An abstract value: what a temporary or a cell is known to hold. Slices that are only read are told by what they hold. -/
inductive AV where
  | undef
  | bool (b : Bool)
  | int (k : IntKind) (n : Int)
  | str (s : ByteArray)
  | nilptr
  | nilfunc
  | niliface
  | ptr (x off s : Nat)
  | sl (x sz off len : Nat)
  | gsl (x ver : Nat)
  | ri (k : IntKind) (l : List Int) (i : Nat)
  | rc (l : List AV) (i s : Nat)
  | rr (k : IntKind) (rs : List (List Int)) (i : Nat)
  | vi (k : IntKind) (l : List Int)
  | vc (sz len : Nat) (l : List AV)
  | vr (k : IntKind) (rs : List (List Int))
  | vb (k : IntKind) (P : List (Int × List Int))
  | nilsl
  | esl
  | em (isNil : Bool)
  | agg (vs : List AV)
  | tuple (vs : List AV)
  | func (f : Nat) (first captured : List AV)

/-- what a row holds: numbers; values; or the rows of a table: cell i is the slice of n cells from i*n on of row x -/
inductive Ct where
  | ints (k : IntKind) (l : List Int)
  | cells (l : List AV)
  | tab (x n k : Nat)
  | blks (k : IntKind) (P : List (Int × List Int))

/-- A box: a row of cells of this call's own that may be written; one that is written no more; a row that grows by append alone. -/
inductive Box where
  | fix (c : Ct)
  | ro (c : Ct)
  | grow (sz ver : Nat) (c : Ct)

abbrev Env := List (Nat × AV)
abbrev Sto := List (Nat × Box)

structure St where
  env : Env
  sto : Sto
  nxt : Nat

def look (d : Nat) : Env → AV
  | [] => .undef
  | (k, v) :: l => bif Nat.beq k d then v else look d l

def lookB (x : Nat) : Sto → Option Box
  | [] => none
  | (k, b) :: l => bif Nat.beq k x then some b else lookB x l

/-- a record of a number and a row of numbers -/
def recB (k : IntKind) (P : List (Int × List Int)) (i : Nat) : List AV := [.int .i64 (P.getD i (0, [])).1, .vi k (P.getD i (0, [])).2]

def Ct.size : Ct → Nat
  | .ints _ l => l.length
  | .cells l => l.length
  | .tab _ _ k => k + 1
  | .blks _ P => P.length * 2
def Ct.get (c : Ct) (i : Nat) : AV :=
  match c with
  | .ints k l => .int k (l.getD i 0)
  | .cells l => l.getD i .undef
  | .tab x n _ => .sl x 1 (i * n) n
  | .blks k P => (recB k P (i / 2)).getD (i % 2) .undef

/-- `n` cells from `i` on -/
def Ct.range (c : Ct) (i : Nat) : Nat → List AV
  | 0 => []
  | n + 1 => c.get i :: c.range (i + 1) n

def ofConst0 : Value → AV
  | .bool b => .bool b
  | .int k n => .int k n
  | .string s => .str s
  | .pointer none => .nilptr
  | .slice none 0 0 => .nilsl
  | .nilFunc => .nilfunc
  | .nilIface => .niliface
  | _ => .undef

def ofConst : Value → AV
  | .agg cs => .agg (cs.toList.map ofConst0)
  | v => ofConst0 v

def opv (e : Env) : Operand → AV
  | .tmp t => look t e
  | .const v => ofConst v
  | .func f => .func f [] []
  | .global _ => .undef

/-- a value's cells -/
def AV.cellsOf : AV → List AV
  | .agg vs => vs
  | v => [v]

def isAggT (P : Program) (t : TypeId) : Bool :=
  match P.underlying t with
  | some (.struct _) | some (.array _ _) => true
  | _ => false

def sizeT (P : Program) (t : TypeId) : Option Nat := (P.info? t).map (·.size)

def zeroT (P : Program) (t : TypeId) : Option AV := (P.info? t).bind fun i => i.zero.map ofConst

/-- of what kind a slice's elements are, if they are whole numbers -/
def elemKind (P : Program) (e : TypeId) : Option IntKind :=
  match P.underlying e with
  | some (.int k) => some k
  | _ => none

/-- the number in a value -/
def AV.num : AV → Int
  | .int _ n => n
  | _ => 0
def AV.isInt (k : IntKind) : AV → Bool
  | .int k' _ => decide (k' = k)
  | _ => false

/-- a row's content out of its cells: numbers of one kind are told as numbers -/
def mkCt (P : Program) (e : TypeId) (l : List AV) : Ct :=
  match elemKind P e with
  | some k => bif l.all (AV.isInt k) then .ints k (l.map AV.num) else .cells l
  | none => .cells l

def AV.isPtr : AV → Bool
  | .ptr _ _ _ => true
  | _ => false

/-- may this stand in a cell? -/
def AV.isCell : AV → Bool
  | .undef => false
  | .agg _ => false
  | .tuple _ => false
  | .func _ a b => (a ++ b).all AV.isPtr
  | .ri _ _ _ => false
  | .rc _ _ _ => false
  | .rr _ _ _ => false
  | _ => true

/-- may this be a variable's value? -/
def AV.isPart : AV → Bool
  | .agg _ => true
  | v => v.isCell

def AV.isAgg : AV → Bool
  | .agg _ => true
  | _ => false

/-- put cells into a list of cells from a place on -/
def putCells (l : List AV) (off : Nat) : List AV → List AV
  | [] => l
  | v :: vs => putCells (l.set off v) (off + 1) vs

def fillA (place : Nat → Option (Nat × Nat)) (cells : List AV) : List (Nat × AV) → Option (List AV)
  | [] => some cells
  | (i, v) :: rest =>
    match place i with
    | none => none
    | some (off, size) =>
      bif v.isPart && Nat.beq v.cellsOf.length size && Nat.ble (off + size) cells.length then fillA place (putCells cells off v.cellsOf) rest else none

abbrev Upd := List (Nat × Box)
/-- what an operation comes to: under a condition, a value and the boxes that are made or changed -/
abbrev Eff := Option (Bool × AV × Upd)

/-- the cells of a box that can be read through a place -/
def rowB : Option Box → Option Ct
  | some (.fix c) => some c
  | some (.ro c) => some c
  | _ => none

def ret (v : AV) : Eff := some (true, v, [])
def retIf (c : Bool) (v : AV) : Eff := some (c, v, [])

def orI (k : IntKind) (a b : Int) : Int := k.wrap ((BitVec.ofInt k.bits a ||| BitVec.ofInt k.bits b).toNat : Int)
def andI (k : IntKind) (a b : Int) : Int := k.wrap ((BitVec.ofInt k.bits a &&& BitVec.ofInt k.bits b).toNat : Int)

def intBinA (op : BinOp) (k : IntKind) (a b : Int) : Eff :=
  match op with
  | .add => ret (.int k (k.wrap (a + b)))
  | .sub => ret (.int k (k.wrap (a - b)))
  | .mul => ret (.int k (k.wrap (a * b)))
  | .quo => retIf (b != 0) (.int k (k.wrap (a.tdiv b)))
  | .rem => retIf (b != 0) (.int k (a.tmod b))
  | .or => ret (.int k (orI k a b))
  | .and => ret (.int k (andI k a b))
  | .eql => ret (.bool (a == b))
  | .neq => ret (.bool (a != b))
  | .lss => ret (.bool (decide (a < b)))
  | .leq => ret (.bool (decide (a ≤ b)))
  | .gtr => ret (.bool (decide (a > b)))
  | .geq => ret (.bool (decide (a ≥ b)))
  | _ => none

def shiftA (op : BinOp) (k : IntKind) (a b : Int) : Eff :=
  match op with
  | .shl => retIf (decide (0 ≤ b)) (.int k (k.wrap (a * 2 ^ (min b.toNat k.bits))))
  | .shr => retIf (decide (0 ≤ b)) (.int k (a.fdiv (2 ^ (min b.toNat k.bits))))
  | _ => none

def isShift : BinOp → Bool
  | .shl | .shr => true
  | _ => false

/-- are two values of a type equal? (numbers, bools, strings, structs of these) -/
def eqA (P : Program) : Nat → TypeId → List AV → List AV → Option Bool
  | 0, _, _, _ => none
  | d + 1, t, xs, ys =>
    match P.underlying t with
    | some (.int _) => (match xs, ys with
      | [.int k a], [.int k' b] => bif decide (k = k') then some (a == b) else none
      | _, _ => none)
    | some .bool => (match xs, ys with
      | [.bool a], [.bool b] => some (a == b)
      | _, _ => none)
    | some .string => (match xs, ys with
      | [.str a], [.str b] => some (a.toList == b.toList)
      | _, _ => none)
    | some (.struct fs) => bif P.stoodInHeld t then none else eqFieldsA (eqA P d) xs ys fs.toList
    | _ => none
where
  eqFieldsA (r : TypeId → List AV → List AV → Option Bool) (xs ys : List AV) : List Field → Option Bool
    | [] => some true
    | f :: fs => bif f.name == "_" then none else
      match sizeT P f.type with
      | none => none
      | some n => match r f.type ((xs.drop f.offset).take n) ((ys.drop f.offset).take n), eqFieldsA r xs ys fs with
        | some a, some b => some (a && b)
        | _, _ => none

/-- a slice against nil -/
def nilA (P : Program) (op : BinOp) (t : TypeId) (b : Bool) : Eff :=
  match P.underlying t with
  | some (.slice _) => (match op with
    | .eql => ret (.bool b)
    | .neq => ret (.bool (!b))
    | _ => none)
  | _ => none

def binA (P : Program) (op : BinOp) (t : TypeId) : AV → AV → Eff
  | .int k a, .int k' b =>
    bif isShift op then shiftA op k a b
    else bif decide (k = k') then intBinA op k a b else none
  | .bool a, .bool b => match P.underlying t with
    | some .bool => (match op with
      | .eql => ret (.bool (a == b))
      | .neq => ret (.bool (!(a == b)))
      | _ => none)
    | _ => none
  | .str a, .str b => match op with
    | .eql => ret (.bool (a.toList == b.toList))
    | .neq => ret (.bool (!(a.toList == b.toList)))
    | .add => some (Nat.ble (a.size + b.size) 8388608, .str (a ++ b), [])
    | _ => none
  | .agg xs, .agg ys => bif P.eqGuardType P.depth t || !isAggT P t then none else
    match eqA P 10 t xs ys with
    | some b => (match op with
      | .eql => ret (.bool b)
      | .neq => ret (.bool (!b))
      | _ => none)
    | none => none
  | .vi _ (_ :: _), .nilsl => nilA P op t false
  | .em b, .nilsl => nilA P op t b
  | .nilsl, .nilsl => nilA P op t true
  | _, _ => none

def unA (op : UnOp) : AV → Eff
  | .bool b => match op with
    | .not => ret (.bool !b)
    | _ => none
  | .int k n => match op with
    | .neg => ret (.int k (k.wrap (0 - n)))
    | _ => none
  | _ => none

/-- no names -/
def AV.plain0 : AV → Bool
  | .ptr _ _ _ => false
  | .sl _ _ _ _ => false
  | .gsl _ _ => false
  | .ri _ _ _ => false
  | .rc _ _ _ => false
  | .rr _ _ _ => false
  | .undef => false
  | .agg _ => false
  | .tuple _ => false
  | .func _ _ _ => false
  | _ => true

def AV.isSl : AV → Bool
  | .sl _ _ _ _ => true
  | _ => false

/-- how many elements a grown row has -/
def Ct.count (c : Ct) (sz : Nat) : Nat :=
  match c with
  | .ints _ l => l.length
  | .cells l => l.length / sz
  | .tab _ _ k => (k + 1) / sz
  | .blks _ P => bif Nat.beq sz 2 then P.length else P.length * 2 / sz

/-- the visible cells of a slice whose elements take sz cells, and how many elements they are -/
def viewA (P : Program) (e : TypeId) (sz : Nat) (s : Sto) : AV → Option (Ct × Nat)
  | .vi k l => bif Nat.beq sz 1 then some (.ints k l, l.length) else none
  | .vc z n l => bif Nat.beq z sz then some (.cells l, n) else none
  | .nilsl => some (mkCt P e [], 0)
  | .esl => some (mkCt P e [], 0)
  | .em _ => some (mkCt P e [], 0)
  | .gsl x ver => match lookB x s with
    | some (.grow z v c) => bif Nat.beq v ver && Nat.beq z sz then some (c, c.count sz) else none
    | _ => none
  | .sl x z off n => match rowB (lookB x s) with
    | some (.ints k l) => bif Nat.beq z sz && Nat.beq sz 1 then some (.ints k ((l.drop off).take n), n) else none
    | some (.cells l) => bif Nat.beq z sz && ((l.drop off).take (n * sz)).all AV.plain0 then some (.cells ((l.drop off).take (n * sz)), n) else none
    | some (.tab _ _ _) => none
    | some (.blks _ _) => none
    | none => none
  | _ => none

def lenA (s : Sto) : AV → Option Int
  | .vi _ l => some l.length
  | .vc _ n _ => some n
  | .vr _ rs => some rs.length
  | .vb _ P => some P.length
  | .sl _ _ _ n => some n
  | .nilsl => some 0
  | .esl => some 0
  | .em _ => some 0
  | .gsl x ver => match lookB x s with
    | some (.grow sz v c) => bif Nat.beq v ver then some (c.count sz) else none
    | _ => none
  | _ => none

/-- a slice that is only read, told by what it holds -/
def viewV (sz : Nat) : Ct × Nat → AV
  | (.ints k l, _) => .vi k l
  | (.cells l, n) => .vc sz n l
  | (.tab _ _ _, _) => .undef
  | (.blks _ _, _) => .undef

def appCt : Ct → Ct → Option Ct
  | .ints k l, .ints k' l' => bif decide (k = k') then some (.ints k (l ++ l')) else none
  | .cells [], .cells [.int .i64 c, .vi k p] => some (.blks k [(c, p)])
  | .blks k P, .cells [.int .i64 c, .vi k' p] => bif decide (k = k') then some (.blks k (P ++ [(c, p)])) else none
  | .cells l, .cells l' => some (.cells (l ++ l'))
  | _, _ => none

/-- no list of ours grows beyond this many elements -/
def most : Nat := 4294967296
def bytesT (P : Program) (t : TypeId) : Option Nat := (P.info? t).map (·.bytes)

/-- numbers take one cell each -/
def ctOk (sz : Nat) : Ct → Bool
  | .ints _ _ => Nat.beq sz 1
  | .cells _ => true
  | .tab _ _ _ => false
  | .blks _ _ => true

def appendA (P : Program) (s : Sto) (base : Nat) (sType : TypeId) (d x : AV) : Eff :=
  match P.underlying sType with
  | some (.slice e) =>
    match sizeT P e, bytesT P e, zeroT P e with
    | some sz, some by_, some z =>
      match viewA P e sz s x with
      | none => none
      | some (cx, n) =>
      bif Nat.ble by_ 16384 && Nat.ble 1 sz && z.isPart && Nat.beq z.cellsOf.length sz && ctOk sz cx then
        match d with
        | .nilsl | .esl => match appCt (mkCt P e []) cx with
          | some c => some (Nat.ble n most, .gsl base 0, [(base, .grow sz 0 c)])
          | none => none
        | .gsl b ver => match lookB b s with
          | some (.grow sz' v c) =>
            bif Nat.beq v ver && Nat.beq sz sz' then
              match appCt c cx with
              | some c' => some (Nat.ble (c.count sz + n) most, .gsl b (ver + 1), [(b, .grow sz (ver + 1) c')])
              | none => none
            else none
          | _ => none
        | _ => none
      else none
    | _, _, _ => none
  | _ => none

def isZeroConst : Operand → Bool
  | .const (.int _ 0) => true
  | _ => false

/-- the number nought of a kind -/
def AV.isNought (k : IntKind) : AV → Bool
  | .int k' n => decide (k' = k) && decide (n = 0)
  | _ => false

/-- a row of zero values -/
def zerosA (P : Program) (e : TypeId) (sz : Nat) (z : AV) (n : Nat) : Option Ct :=
  match elemKind P e with
  | some k => bif z.isNought k && Nat.beq sz 1 then some (.ints k (List.replicate n 0)) else none
  | none => some (.cells (List.replicate n z.cellsOf).flatten)

def makeSliceA (P : Program) (base : Nat) (t : TypeId) (grow : Bool) (l c : AV) : Eff :=
  match P.underlying t with
  | some (.slice e) =>
    match sizeT P e, bytesT P e, zeroT P e, l, c with
    | some sz, some by_, some z, .int _ ln, .int _ cn =>
      bif Nat.ble by_ 16384 && z.isPart && Nat.beq z.cellsOf.length sz && Nat.ble 1 sz && ctOk sz (mkCt P e []) then
        bif grow then some (decide (0 ≤ cn) && decide (cn ≤ 4294967296), .gsl base 0, [(base, .grow sz 0 (mkCt P e []))])
        else match zerosA P e sz z cn.toNat with
          | some ct => some (decide (0 ≤ ln) && decide (ln ≤ cn) && decide (cn ≤ 4294967296), .sl base sz 0 ln.toNat, [(base, .fix ct)])
          | none => none
      else none
    | _, _, _, _, _ => none
  | _ => none

/-- the bounds of a slice expression over n elements: from, to -/
def boundsA (n : Nat) (lo hi mx : Option AV) : Option (Bool × Nat × Nat) :=
  match lo, hi, mx with
  | none, none, none => some (true, 0, n)
  | some (.int _ a), none, none => some (decide (0 ≤ a) && decide (a ≤ n), a.toNat, n)
  | none, some (.int _ b), none => some (decide (0 ≤ b) && decide (b ≤ n), 0, b.toNat)
  | some (.int _ a), some (.int _ b), none => some (decide (0 ≤ a) && decide (a ≤ b) && decide (b ≤ n), a.toNat, b.toNat)
  | none, some (.int _ b), some (.int _ m) => some (decide (0 ≤ b) && decide (b ≤ m) && decide (m ≤ n), 0, b.toNat)
  | some (.int _ a), some (.int _ b), some (.int _ m) => some (decide (0 ≤ a) && decide (a ≤ b) && decide (b ≤ m) && decide (m ≤ n), a.toNat, b.toNat)
  | _, _, _ => none

def cutL {α : Type} (l : List α) (lo hi : Option AV) (a b sz : Nat) : List α :=
  match lo, hi with
  | none, none => l
  | none, some _ => l.take (b * sz)
  | some _, none => l.drop (a * sz)
  | some _, some _ => (l.drop (a * sz)).take ((b - a) * sz)

def zeroCap (hi mx : Option AV) : Bool :=
  match mx with
  | some (.int _ m) => (match hi with
    | some (.int _ h) => decide (m = 0) && decide (h = 0)
    | _ => false)
  | _ => false

def sliceA (P : Program) (s : Sto) (t : TypeId) (x : AV) (lo hi mx : Option AV) : Eff :=
  match P.underlying t with
  | some (.slice e) =>
    bif !(sizeT P e).isSome then none else
    bif lo.isNone && zeroCap hi mx then
      (match x with
       | .vi _ _ => ret .esl
       | .vc _ _ _ => ret .esl
       | .gsl _ _ => ret .esl
       | .sl _ _ _ _ => ret .esl
       | _ => none)
    else
    match x with
    | .nilsl => (match boundsA 0 lo hi mx with
       | some (c, _, _) => some (c, .nilsl, [])
       | none => none)
    | .esl => (match boundsA 0 lo hi mx with
       | some (c, _, _) => some (c, .esl, [])
       | none => none)
    | x =>
      match sizeT P e with
      | none => none
      | some sz =>
        bif x.isSl then
          (match x with
           | .sl b z off n =>
             (match boundsA n lo hi mx with
              | some (c, a, b') => bif Nat.beq z sz then some (c, .sl b sz (off + a * sz) (b' - a), []) else none
              | none => none)
           | _ => none)
        else match viewA P e sz s x with
        | some (.ints k l, n) =>
          (match boundsA n lo hi mx with
           | some (c, a, b) => bif Nat.beq sz 1 then some (c, .vi k (cutL l lo hi a b 1), []) else none
           | none => none)
        | some (.cells l, n) =>
          (match boundsA n lo hi mx with
           | some (c, a, b) => some (c, .vc sz (b - a) (cutL l lo hi a b sz), [])
           | none => none)
        | some (.tab _ _ _, _) => none
        | some (.blks _ _, _) => none
        | none => none
  | _ => none

def indexAddrA (P : Program) (s : Sto) (t : TypeId) (x i : AV) : Eff :=
  match P.underlying t, i with
  | some (.slice e), .int _ i =>
    (match sizeT P e with
     | none => none
     | some sz =>
       bif !Nat.ble 1 sz then none else
       bif x.isSl then
         (match x with
          | .sl b z off n => bif Nat.beq z sz then some (decide (0 ≤ i) && decide (i < n), .ptr b (off + i.toNat * sz) sz, []) else none
          | _ => none)
       else match viewA P e sz s x with
         | some (.ints k l, n) => bif Nat.beq sz 1 then some (decide (0 ≤ i) && decide (i < n), .ri k l i.toNat, []) else none
         | some (.cells l, n) => some (decide (0 ≤ i) && decide (i < n), .rc l (i.toNat * sz) sz, [])
         | some (.tab _ _ _, _) => none
         | some (.blks _ _, _) => none
         | none => match x with
           | .vr k rs => bif Nat.beq sz 1 then some (decide (0 ≤ i) && decide (i < rs.length), .rr k rs i.toNat, []) else none
           | .vb k P => bif Nat.beq 2 sz then some (decide (0 ≤ i) && decide (i < P.length), .rc (recB k P i.toNat) 0 sz, []) else none
           | _ => none)
  | some (.array n e), .int _ i =>
    (match x, sizeT P e with
     | .ptr b off s, some sz => bif Nat.ble (n * sz) s && Nat.ble 2 n then some (decide (0 ≤ i) && decide (i < n), .ptr b (off + i.toNat * sz) sz, []) else none
     | _, _ => none)
  | _, _ => none

def loadA (P : Program) (s : Sto) (t : TypeId) (x : AV) : Eff :=
  match sizeT P t with
  | none => none
  | some n =>
    bif isAggT P t then
      match x with
      | .ptr b off m => bif Nat.ble n m then (match rowB (lookB b s) with
        | some c => ret (.agg (c.range off n))
        | none => none) else none
      | .rc l i m => bif Nat.ble n m then ret (.agg ((Ct.cells l).range i n)) else none
      | _ => none
    else bif !(P.underlying t).isSome then none else
      match x with
      | .ptr b off m => bif Nat.ble 1 m then (match rowB (lookB b s) with
        | some c => ret (c.get off)
        | none => none) else none
      | .ri k l i => ret (.int k (l.getD i 0))
      | .rc l i m => bif Nat.ble 1 m then ret (l.getD i .undef) else none
      | .rr k rs i => ret (.vi k (rs.getD i []))
      | _ => none

def Ct.put (c : Ct) (off : Nat) (vs : List AV) : Option Ct :=
  match c, vs with
  | .ints k l, [.int k' n] => bif decide (k = k') then some (.ints k (l.set off n)) else none
  | .cells l, vs => some (.cells (putCells l off vs))
  | _, _ => none

def storeA (P : Program) (s : Sto) (t : TypeId) (x v : AV) : Eff :=
  match sizeT P t, x with
  | some n, .ptr b off m =>
    bif Nat.ble n m && v.isPart && Nat.beq v.cellsOf.length n && v.cellsOf.all AV.isCell then
      match lookB b s with
      | some (.fix c) => match c.put off v.cellsOf with
        | some c' => some (true, .undef, [(b, .fix c')])
        | none => none
      | _ => none
    else none
  | _, _ => none

def fieldOf (P : Program) (t : TypeId) (f : Nat) : Option (Nat × Nat) :=
  match P.underlying t with
  | some (.struct fs) => (fs[f]?).bind fun d => (sizeT P d.type).map fun n => (d.offset, n)
  | _ => none

def fieldAddrA (P : Program) (t : TypeId) (x : AV) (f : Nat) : Eff :=
  match fieldOf P t f with
  | some (o, n) =>
    bif Nat.ble 1 n then
      match x with
      | .ptr b off s => bif Nat.ble (o + n) s then ret (.ptr b (off + o) n) else none
      | .rc l i s => bif Nat.ble (o + n) s then ret (.rc l (i + o) n) else none
      | _ => none
    else none
  | none => none

/-- a field of a struct's value -/
def fieldA (P : Program) (t : TypeId) (x : AV) (f : Nat) : Eff :=
  match P.underlying t, x with
  | some (.struct fs), .agg cs =>
    (match fs[f]? with
     | some d => (match sizeT P d.type with
       | some n => bif !(P.underlying d.type).isSome then none else
           bif isAggT P d.type then (bif Nat.ble (d.offset + n) cs.length then ret (.agg ((cs.drop d.offset).take n)) else none)
           else (bif Nat.ble 1 n && Nat.ble (d.offset + 1) cs.length then ret (cs.getD d.offset .undef) else none)
       | none => none)
     | none => none)
  | _, _ => none

def buildA (P : Program) (t : TypeId) (parts : List (Nat × AV)) : Eff :=
  match zeroT P t, P.underlying t with
  | some z, some (.struct fs) =>
    bif !z.isPart || !z.isAgg || !fs.toList.all (fun f => (sizeT P f.type).isSome) then none else
    match fillA (fun i => fieldOf P t i) z.cellsOf parts with
    | some cs => ret (.agg cs)
    | none => none
  | some z, some (.array _ e) =>
    (match sizeT P e with
     | some n => bif !z.isPart || !z.isAgg then none else
       match fillA (fun i => some (i * n, n)) z.cellsOf parts with
       | some cs => ret (.agg cs)
       | none => none
     | none => none)
  | _, _ => none

def buildSliceA (P : Program) (t : TypeId) (len : Nat) (parts : List (Nat × AV)) : Eff :=
  match P.underlying t with
  | some (.slice e) =>
    match sizeT P e, zeroT P e with
    | some sz, some z =>
      bif z.isPart && Nat.beq z.cellsOf.length sz && Nat.ble (len * sz) 4096 && Nat.ble 1 sz then
        match fillA (fun i => some (i * sz, sz)) (List.replicate len z.cellsOf).flatten parts with
        | some cs => bif Nat.beq len 0 then ret .esl else bif cs.all AV.plain0 && ctOk sz (mkCt P e cs) then ret (viewV sz (mkCt P e cs, len)) else none
        | none => none
      else none
    | _, _ => none
  | _ => none

/-- the same for values with names: a row of the call's own -/
def buildSliceB (P : Program) (base : Nat) (t : TypeId) (len : Nat) (parts : List (Nat × AV)) : Eff :=
  match P.underlying t with
  | some (.slice e) =>
    match sizeT P e, zeroT P e with
    | some sz, some z =>
      bif z.isPart && Nat.beq z.cellsOf.length sz && Nat.ble (len * sz) 4096 && Nat.ble 1 sz then
        match fillA (fun i => some (i * sz, sz)) (List.replicate len z.cellsOf).flatten parts with
        | some cs => bif Nat.beq len 0 || !cs.all AV.isCell then none else some (true, .sl base sz 0 len, [(base, .fix (.cells cs))])
        | none => none
      else none
    | _, _ => none
  | _ => none

def bytesOf (l : List Int) : ByteArray := ⟨(l.map fun n => UInt8.ofNat n.toNat).toArray⟩

def convertA (P : Program) (s : Sto) (src dst : TypeId) (x : AV) : Eff :=
  match P.underlying src, P.underlying dst, x with
  | some (.int _), some (.int k), .int _ n => ret (.int k (k.wrap n))
  | some (.slice e), some .string, x => match P.underlying e, viewA P e 1 s x with
    | some (.int .u8), some (.ints .u8 l, _) => ret (.str (bytesOf l))
    | _, _ => none
  | _, _, _ => none

def minmaxA (mx : Bool) : List AV → Eff
  | [.int k a, .int _ b] => ret (.int k (bif mx then (if b > a then b else a) else (if b < a then b else a)))
  | _ => none

def AV.refsP : AV → List Nat
  | .ptr x _ _ => [x]
  | _ => []
def AV.refs0 : AV → List Nat
  | .ptr x _ _ => [x]
  | .sl x _ _ _ => [x]
  | .gsl x _ => [x]
  | .func _ a b => (a ++ b).flatMap AV.refsP
  | _ => []
def AV.refs1 : AV → List Nat
  | .agg vs => vs.flatMap AV.refs0
  | .func _ a b => (a ++ b).flatMap AV.refs0
  | v => v.refs0
def AV.refs : AV → List Nat
  | .tuple vs => vs.flatMap AV.refs1
  | v => v.refs1
def Ct.refs : Ct → List Nat
  | .ints _ _ => []
  | .cells l => l.flatMap AV.refs0
  | .tab x _ _ => [x]
  | .blks _ _ => []
def Box.refs : Box → List Nat
  | .fix c => c.refs
  | .ro c => c.refs
  | .grow _ _ c => c.refs

def memN (x : Nat) : List Nat → Bool
  | [] => false
  | y :: l => bif Nat.beq x y then true else memN x l

/-- the names that can be reached from some names -/
def reach (s : Sto) : Nat → List Nat → List Nat → List Nat
  | 0, _, acc => acc
  | _ + 1, [], acc => acc
  | n + 1, x :: todo, acc =>
    bif memN x acc then reach s n todo acc
    else match lookB x s with
      | some b => reach s n (b.refs ++ todo) (x :: acc)
      | none => reach s n todo acc

/-- the boxes of some names, each once -/
def subSto (s : Sto) : List Nat → Sto
  | [] => []
  | x :: l => match lookB x s with
    | some b => (x, b) :: subSto s l
    | none => subSto s l

def reached (s : Sto) (vs : List AV) : List Nat := reach s 4096 (vs.flatMap AV.refs) []

def pureL (f : AV → Option AV) : List AV → Option (List AV)
  | [] => some []
  | v :: l => match f v, pureL f l with
    | some a, some b => some (a :: b)
    | _, _ => none

/-- a slice told by what it holds, its cells as they are -/
def viewS (s : Sto) : AV → Option AV
  | .gsl x ver => match lookB x s with
    | some (.grow sz v (.ints k l)) => bif Nat.beq v ver then some (.vi k l) else none
    | some (.grow sz v (.cells l)) => bif Nat.beq v ver then some (.vc sz (l.length / sz) l) else none
    | some (.grow sz v (.blks k P)) => bif Nat.beq v ver && Nat.beq sz 2 then some (.vb k P) else none
    | _ => none
  | .sl x sz off n => match lookB x s with
    | some (.ro (.ints k l)) => bif Nat.beq sz 1 then some (.vi k ((l.drop off).take n)) else none
    | some (.ro (.cells l)) => some (.vc sz n ((l.drop off).take (n * sz)))
    | _ => none
  | v => bif v.plain0 then some v else none

/-- the same down to slices of slices of slices -/
def pureC (s : Sto) : Nat → AV → Option AV
  | 0, v => bif v.plain0 then some v else none
  | d + 1, v => match viewS s v with
    | some (.vc sz n l) => (pureL (pureC s d) l).map (.vc sz n)
    | o => o

/-- a value without the names from lo on: read now; what it names below lo stays -/
def pure0 (s : Sto) (lo : Nat) (v : AV) : Option AV :=
  match v with
  | .gsl x _ => bif Nat.ble lo x then pureC s 3 v else some v
  | .sl x _ _ _ => bif Nat.ble lo x then (match pureC s 3 v with
    | some v' => some v'
    | none => some v) else some v
  | v => some v

def pure1 (s : Sto) (lo : Nat) : AV → Option AV
  | .agg vs => (pureL (pure0 s lo) vs).map .agg
  | v => pure0 s lo v

def pureV (s : Sto) (lo : Nat) : AV → Option AV
  | .tuple vs => (pureL (pure1 s lo) vs).map .tuple
  | v => pure1 s lo v

def slRefs0 : AV → List Nat
  | .sl x _ _ _ => [x]
  | _ => []
def slRefs1 : AV → List Nat
  | .agg vs => vs.flatMap slRefs0
  | v => slRefs0 v
def slRefs : AV → List Nat
  | .tuple vs => vs.flatMap slRefs1
  | v => slRefs1 v

/-- boxes from lo on that are handed on by a slice are written no more -/
def freeze (s : Sto) (lo : Nat) : List Nat → Upd
  | [] => []
  | x :: l => bif Nat.ble lo x then
      (match lookB x s with
       | some (.fix c) => (x, .ro c) :: freeze s lo l
       | _ => freeze s lo l)
    else freeze s lo l

def AV.plain1 : AV → Bool
  | .agg vs => vs.all AV.plain0
  | v => v.plain0

/-- arguments without names, and the boxes that are written no more for it -/
def pureArgs (lo : Nat) (s : Sto) (vs : List AV) : Option (List AV × Upd) :=
  let u := freeze s lo (vs.flatMap slRefs)
  match pureL (pureV (u ++ s) 0) vs with
  | some l => bif l.all AV.plain1 then some (l, u) else none
  | none => none

inductive Ex where
  | normal
  | exit (id : Nat)
  | ret

structure Cfg where
  P : Program
  /-- functions of values without names, known by a model: under a condition, the result -/
  E : Nat → List AV → Option (Bool × AV)
  /-- functions known by a model that may read and change boxes -/
  Er : Nat → List AV → Sto → Option (Bool × AV × Upd × Nat)
  /-- what is kept at the head of a loop: by the function and the block -/
  keep : Nat → Nat → Option (List Nat)
  /-- loops known by a model: by the function, the block, the first name of the call and the state at the head -/
  L : Nat → Nat → Nat → St → Option (Bool × Ex × St)
  /-- functions of values without names, by cases: the first one whose condition holds -/
  X : Nat → List AV → Option (List (Bool × AV))
  /-- loops by cases -/
  LL : Nat → Nat → Nat → St → Option (List (Bool × Ex × St))
  /-- functions that are followed where they are called -/
  hasK : Bool
  /-- functions whose new rows are handed on to be written -/
  muts : Nat → Bool
  ck : (R : Type) → Nat → List AV → Sto → Nat → (AV × Upd × Nat → Option R) → Option R

/-- the first case whose condition holds -/
def pickL {α : Type} : List (Bool × α) → Option α
  | [] => none
  | (c, a) :: l => bif c then some a else pickL l
def altK {α R : Type} (k : α → Option R) : List (Bool × α) → Option R
  | [] => none
  | (c, a) :: l => bif c then k a else altK k l

abbrev CallF := Nat → List AV → Sto → Nat → Option (AV × Upd × Nat)

/-- an effect, and the next free name -/
abbrev EffN := Option (Bool × AV × Upd × Nat)
def Eff.at (e : Eff) (nx : Nat) : EffN :=
  match e with
  | some (c, v, u) => some (c, v, u, nx)
  | none => none

/-- the place of a name in a list -/
def placeN (x : Nat) : List Nat → Option Nat
  | [] => none
  | y :: l => bif Nat.beq x y then some 0 else (placeN x l).map (· + 1)

def okP (ρ : Nat → Option Nat) : AV → Bool
  | .ptr x _ _ => (ρ x).isSome
  | _ => false
def renP (ρ : Nat → Option Nat) : AV → AV
  | .ptr x o s => match ρ x with
    | some y => .ptr y o s
    | none => .undef
  | v => v
def ren0 (ρ : Nat → Option Nat) : AV → AV
  | .ptr x o s => match ρ x with
    | some y => .ptr y o s
    | none => .undef
  | .sl x z o n => match ρ x with
    | some y => .sl y z o n
    | none => .undef
  | .gsl x v => match ρ x with
    | some y => .gsl y v
    | none => .undef
  | .func f a b => bif (a ++ b).all (okP ρ) then .func f (a.map (renP ρ)) (b.map (renP ρ)) else .undef
  | v => v
def ren1 (ρ : Nat → Option Nat) : AV → AV
  | .agg vs => .agg (vs.map (ren0 ρ))
  | .func f a b => .func f (a.map (ren0 ρ)) (b.map (ren0 ρ))
  | v => ren0 ρ v
def renV (ρ : Nat → Option Nat) : AV → AV
  | .tuple vs => .tuple (vs.map (ren1 ρ))
  | v => ren1 ρ v
def renC (ρ : Nat → Option Nat) : Ct → Ct
  | .cells l => .cells (l.map (ren0 ρ))
  | .tab x n k => match ρ x with
    | some y => .tab y n k
    | none => .cells (List.replicate (k + 1) .undef)
  | c => c
def renB (ρ : Nat → Option Nat) : Box → Box
  | .fix c => .fix (renC ρ c)
  | .ro c => .ro (renC ρ c)
  | .grow sz ver c => .grow sz ver (renC ρ c)

/-- the boxes that are handed to a call, under the names 0, 1, .. -/
def handed (s : Sto) (ρ : Nat → Option Nat) : Nat → List Nat → Sto
  | _, [] => []
  | i, x :: l => match lookB x s with
    | some b => (i, renB ρ b) :: handed s ρ (i + 1) l
    | none => handed s ρ (i + 1) l

/-- the caller's name of a callee's name -/
def backN (L : List Nat) (base : Nat) (y : Nat) : Option Nat :=
  match L[y]? with
  | some x => some x
  | none => some (base + (y - L.length))

def renU (ρ : Nat → Option Nat) : Upd → Upd
  | [] => []
  | (y, b) :: u => match ρ y with
    | some x => (x, renB ρ b) :: renU ρ u
    | none => renU ρ u

/-- a call by the boxes that it is handed -/
def rawA (C : Cfg) (call : CallF) (f : Nat) (as : List AV) (s : Sto) (base : Nat) : EffN :=
  let L := reached s as
  let ρ := fun x => placeN x L
  let as' := as.map (renV ρ)
  let s' := handed s ρ 0 L
  let σ := backN L base
  match C.Er f as' s' with
  | some (c, v, u, nx) => some (c, renV σ v, renU σ u, base + (nx - L.length))
  | none => match call f as' s' L.length with
    | some (v, u, nx) => some (true, renV σ v, renU σ u, base + (nx - L.length))
    | none => none

def AV.plainV : AV → Bool
  | .tuple vs => vs.all AV.plain1
  | v => v.plain1

def callA (C : Cfg) (call : CallF) (lo : Nat) (f : Nat) (as : List AV) (s : Sto) (base : Nat) : EffN :=
  match pureArgs lo (subSto s (reached s as)) as with
  | some (as', u0) =>
    (match C.E f as' with
     | some (c, v) => some (c, v, u0, base)
     | none => rawA C call f as s base)
  | none => rawA C call f as s base

def hasBody (P : Program) (f : Nat) : Bool :=
  match P.funcs[f]? with
  | some fn => fn.body.isSome
  | none => false

def AV.is0 : AV → Bool
  | .agg _ => false
  | .tuple _ => false
  | .func _ _ _ => false
  | _ => true

def funcA (fn : Fn) (first captured : List AV) : Eff :=
  match fn with
  | .func f => bif first.all AV.is0 && captured.all AV.is0 then ret (.func f first captured) else none
  | _ => none

def isSliceT (P : Program) (t : TypeId) : Bool :=
  match P.underlying t with
  | some (.slice _) => true
  | _ => false

def extractA (v : AV) (i : Nat) : Eff :=
  match v with
  | .tuple vs => (vs[i]?).bind fun x => ret x
  | _ => none

def nilCheckA : AV → Eff
  | .ptr x o s => ret (.ptr x o s)
  | .func f a b => ret (.func f a b)
  | _ => none

def boxA (P : Program) (base : Nat) (t : TypeId) (v : AV) : Eff :=
  match sizeT P t with
  | some n => bif v.isPart && Nat.beq v.cellsOf.length n && v.cellsOf.all AV.isCell then
      some (true, .ptr base 0 n, [(base, .fix (.cells v.cellsOf))]) else none
  | none => none

/-- what an operation does, in the order of the text -/
def effA (C : Cfg) (call : CallF) (lo : Nat) (o : Op) (e : Env) (s : Sto) (base : Nat) : EffN :=
  let P := C.P
  match o with
  | .move x => (ret (opv e x)).at base
  | .assign x => (ret (opv e x)).at base
  | .pick c a b => (match opv e c with
    | .bool c => (ret (bif c then opv e a else opv e b)).at base
    | _ => none)
  | .alloc t => (match zeroT P t with
    | some z => (boxA P base t z).at (base + 1)
    | none => none)
  | .box t x => (boxA P base t (opv e x)).at (base + 1)
  | .build t parts => (buildA P t (parts.toList.map fun p => (p.1, opv e p.2))).at base
  | .buildSlice t n parts => (match buildSliceA P t n (parts.toList.map fun p => (p.1, opv e p.2)) with
    | some r => Eff.at (some r) base
    | none => (buildSliceB P base t n (parts.toList.map fun p => (p.1, opv e p.2))).at (base + 1))
  | .load t a => (loadA P s t (opv e a)).at base
  | .store t a v => (storeA P s t (opv e a) (opv e v)).at base
  | .nilCheck x => (nilCheckA (opv e x)).at base
  | .binOp op t x y _ => (binA P op t (opv e x) (opv e y)).at base
  | .unOp op _ x => (unA op (opv e x)).at base
  | .convert a b x => (convertA P s a b (opv e x)).at base
  | .makeFunc fn first captured => (funcA fn (first.toList.map (opv e)) (captured.toList.map (opv e))).at base
  | .makeSlice t l c => (makeSliceA P base t (isZeroConst l) (opv e l) (opv e c)).at (base + 1)
  | .slice t x lo hi mx => (sliceA P s t (opv e x) (lo.map (opv e)) (hi.map (opv e)) (mx.map (opv e))).at base
  | .fieldAddr t x f => (fieldAddrA P t (opv e x) f).at base
  | .field t x f => (fieldA P t (opv e x) f).at base
  | .indexAddr t x i => (indexAddrA P s t (opv e x) (opv e i)).at base
  | .extract x i => (extractA (opv e x) i).at base
  | .call c => (match c.callee with
    | .value fo => (match opv e fo with
      | .func f first captured => bif hasBody P f then callA C call lo f (first ++ c.args.toList.map (opv e) ++ captured) s base else none
      | _ => none)
    | .builtin .len => (match c.args.toList, c.argTypes.toList with
      | [x], [t] => bif isSliceT P t then (match lenA s (opv e x) with
        | some n => (ret (.int .i64 n)).at base
        | none => none) else none
      | _, _ => none)
    | .builtin .append => (match c.args.toList, c.argTypes.toList with
      | [d, x], [t, t'] => bif Nat.beq t t' then (appendA P s base t (opv e d) (opv e x)).at (base + 1) else none
      | _, _ => none)
    | .builtin .min => (minmaxA false (c.args.toList.map (opv e))).at base
    | .builtin .max => (minmaxA true (c.args.toList.map (opv e))).at base
    | _ => none)
  | _ => none

/-- the boxes that an operation looks at -/
def footA (o : Op) (e : Env) (s : Sto) : List Nat :=
  match o with
  | .load _ a => (opv e a).refs
  | .store _ a _ => (opv e a).refs
  | .convert _ _ x => (opv e x).refs
  | .slice _ x _ _ _ => (opv e x).refs
  | .indexAddr _ x _ => (opv e x).refs
  | .call c => (match c.callee with
    | .value fo => (match opv e fo with
      | .func _ first captured => reached s (first ++ c.args.toList.map (opv e) ++ captured)
      | _ => [])
    | .builtin _ => (c.args.toList.map (opv e)).flatMap AV.refs
    | _ => [])
  | _ => []

def put (e : Env) (dst : Option Nat) (v : AV) : Env :=
  match dst with
  | some d => (d, v) :: e
  | none => e

def dstIn (nt : Nat) : Option Nat → Bool
  | none => true
  | some d => Nat.ble (d + 1) nt

def dstOf (ops : List Oper) (j : Nat) : Option Nat := (ops[j]?).bind (·.dst)

/-- what was looked at and what was changed by each operation so far: its place, the names -/
abbrev Foots := List (Nat × List Nat × List Nat)

def disjN (a b : List Nat) : Bool := a.all fun x => !memN x b

/-- a call that is known by cases -/
def splitX (C : Cfg) (lo : Nat) (o : Op) (e : Env) (s : Sto) : Option (List (Bool × AV) × Upd) :=
  match o with
  | .call c => (match c.callee with
    | .value fo => (match opv e fo with
      | .func f first captured => bif hasBody C.P f then
          (match pureArgs lo (subSto s (reached s (first ++ c.args.toList.map (opv e) ++ captured))) (first ++ c.args.toList.map (opv e) ++ captured) with
           | some (as', u0) => (match C.X f as' with
             | some alts => some (alts, u0)
             | none => none)
           | none => none) else none
      | _ => none)
    | _ => none)
  | _ => none

/-- a call that is followed: the function, the arguments, the boxes that are handed on, their names -/
def inlX (C : Cfg) (lo : Nat) (o : Op) (e : Env) (s : Sto) : Option (Nat × List AV × Sto × List Nat) :=
  bif !C.hasK then none else
  match o with
  | .call c => (match c.callee with
    | .value fo => (match opv e fo with
      | .func f first captured => bif hasBody C.P f then
          let as := first ++ c.args.toList.map (opv e) ++ captured
          let L := reached s as
          let as' := as.map (renV fun x => placeN x L)
          let s' := handed s (fun x => placeN x L) 0 L
          bif (match pureArgs lo (subSto s L) as with
               | some (as1, _) => (C.E f as1).isNone
               | none => true) && (C.Er f as' s').isNone then some (f, as', s', L) else none
        else none
      | _ => none)
    | _ => none)
  | _ => none

def opsK {R : Type} (C : Cfg) (call : CallF) (lo nt : Nat) (all : List Oper) : List Oper → Nat → Foots → St → (Foots → St → Option R) → Option R
  | [], _, fs, st, K => K fs st
  | o :: l, i, fs, st, K =>
    match o.guard with
    | none =>
      (match splitX C lo o.op st.env st.sto with
       | some (alts, u) => bif dstIn nt o.dst then altK (fun v => opsK C call lo nt all l (i + 1) ((i, footA o.op st.env st.sto, u.map (·.1)) :: fs) ⟨put st.env o.dst v, u ++ st.sto, st.nxt⟩ K) alts else none
       | none =>
       match inlX C lo o.op st.env st.sto with
       | some (f, as', s', L) => C.ck R f as' s' L.length fun p => bif dstIn nt o.dst then opsK C call lo nt all l (i + 1) ((i, footA o.op st.env st.sto, (renU (backN L st.nxt) p.2.1).map (·.1)) :: fs) ⟨put st.env o.dst (renV (backN L st.nxt) p.1), renU (backN L st.nxt) p.2.1 ++ st.sto, st.nxt + (p.2.2 - L.length)⟩ K else none
       | none =>
       match effA C call lo o.op st.env st.sto st.nxt with
       | some (c, v, u, nx) => bif c && dstIn nt o.dst then opsK C call lo nt all l (i + 1) ((i, footA o.op st.env st.sto, u.map (·.1)) :: fs) ⟨put st.env o.dst v, u ++ st.sto, nx⟩ K else none
       | none => none)
    | some (j, want) =>
      match dstOf all j with
      | none => none
      | some d =>
        match look d st.env with
        | .bool b =>
          bif (bif want then b else !b) then
            (match splitX C lo o.op ((d, .bool want) :: st.env) st.sto with
             | some (alts, u) => bif dstIn nt o.dst then altK (fun v => opsK C call lo nt all l (i + 1) ((i, footA o.op ((d, .bool want) :: st.env) st.sto, u.map (·.1)) :: fs) ⟨put ((d, .bool want) :: st.env) o.dst v, u ++ st.sto, st.nxt⟩ K) alts else none
             | none =>
             match inlX C lo o.op ((d, .bool want) :: st.env) st.sto with
             | some (f, as', s', L) => C.ck R f as' s' L.length fun p => bif dstIn nt o.dst then opsK C call lo nt all l (i + 1) ((i, footA o.op ((d, .bool want) :: st.env) st.sto, (renU (backN L st.nxt) p.2.1).map (·.1)) :: fs) ⟨put ((d, .bool want) :: st.env) o.dst (renV (backN L st.nxt) p.1), renU (backN L st.nxt) p.2.1 ++ st.sto, st.nxt + (p.2.2 - L.length)⟩ K else none
             | none =>
             match effA C call lo o.op ((d, .bool want) :: st.env) st.sto st.nxt with
             | some (c, v, u, nx) => bif c && dstIn nt o.dst then opsK C call lo nt all l (i + 1) ((i, footA o.op ((d, .bool want) :: st.env) st.sto, u.map (·.1)) :: fs) ⟨put ((d, .bool want) :: st.env) o.dst v, u ++ st.sto, nx⟩ K else none
             | none => none)
          else opsK C call lo nt all l (i + 1) fs ⟨put ((d, .bool !want) :: st.env) o.dst (.tuple []), st.sto, st.nxt⟩ K
        | .tuple [] => opsK C call lo nt all l (i + 1) fs ⟨put st.env o.dst (.tuple []), st.sto, st.nxt⟩ K
        | _ => none

/-- no two operations whose order is open meet in a box that one of them changes -/
def apartF (before : Array Nat) : Foots → Bool
  | [] => true
  | (j, r, w) :: fs => (fs.all fun (i, r', w') => (before.getD j 0).testBit i || (disjN w r' && disjN w w' && disjN w' r)) && apartF before fs

/-- no two operations whose order is open meet in a slot -/
def slotsF (ops : Array Oper) (before : Array Nat) : Bool :=
  (List.range ops.size).all fun j => (List.range j).all fun i => (before.getD j 0).testBit i ||
    (match ops[j]?, ops[i]? with
     | some oj, some oi => oj.apart ops oi
     | _, _ => true)

/-- an order in which each operation stands behind those that it waits for -/
def orderF (md : Region.Mode) (ops : Array Oper) : List Nat → List Nat → Bool
  | [], _ => true
  | i :: l, seen => (match ops[i]? with
    | some o => o.after.all fun e => !Region.binds md e || memN e.on seen
    | none => false) && orderF md ops l (i :: seen)

def modeF (md : Region.Mode) (ops : Array Oper) (l : List Nat) : Bool := orderF md ops l [] && (List.range ops.size).all fun i => memN i l

/-- every schedule of the region comes to an end -/
def endsF (mixed : Bool) (ops : Array Oper) : Bool :=
  bif mixed || !Region.departs ops then modeF .any ops (List.range ops.size)
  else modeF .text ops (List.range ops.size) && modeF .gc ops (Region.linearise .gc ops 0)

def drawF (mixed : Bool) (ops : Array Oper) (fs : Foots) : Bool := endsF mixed ops && slotsF ops (Region.before ops) && apartF (Region.before ops) fs

/-- a row of the call's own that grows is told anew from version nought on -/
def norm0 (s : Sto) (lo : Nat) : AV → AV
  | .gsl x ver => bif Nat.ble lo x then (match lookB x s with
      | some (.grow _ v _) => bif Nat.beq v ver then .gsl x 0 else .undef
      | _ => .undef) else .gsl x ver
  | v => v
def norm1 (s : Sto) (lo : Nat) : AV → AV
  | .agg vs => .agg (vs.map (norm0 s lo))
  | .func f a b => .func f (a.map (norm0 s lo)) (b.map (norm0 s lo))
  | v => norm0 s lo v
def normV (s : Sto) (lo : Nat) : AV → AV
  | .tuple vs => .tuple (vs.map (norm1 s lo))
  | v => norm1 s lo v
def normC (s : Sto) (lo : Nat) : Ct → Ct
  | .cells l => .cells (l.map (norm0 s lo))
  | c => c
def normB (s : Sto) (lo x : Nat) : Box → Box
  | .fix c => .fix (normC s lo c)
  | .ro c => .ro (normC s lo c)
  | .grow sz v c => .grow sz (bif Nat.ble lo x then 0 else v) c

/-- what is kept at the head of a loop: of the slots those that are named, of the boxes those of the callers and those that the slots lead to -/
def keepEnv (s : Sto) (lo : Nat) (e : Env) : List Nat → Env
  | [] => []
  | d :: l => (d, normV s lo (look d e)) :: keepEnv s lo e l

def keepSto (s0 : Sto) (lo : Nat) (s : Sto) : Sto := s.map fun p => (p.1, normB s0 lo p.1 p.2)

def maxN : List Nat → Nat
  | [] => 0
  | x :: l => bif Nat.ble (maxN l) x then x else maxN l

def restrict (lo : Nat) (kp : Option (List Nat)) (st : St) : Option St :=
  match kp with
  | none => some st
  | some ks =>
    let e := keepEnv st.sto lo st.env ks
    let names := reach st.sto 4096 (e.flatMap (fun p => p.2.refs) ++ ((st.sto.map (·.1)).filter fun x => !Nat.ble lo x)) []
    let s := keepSto st.sto lo (subSto st.sto names)
    let ok := fun x => !Nat.ble lo x || memN x names
    bif (e.all fun p => p.2.refs.all ok) && (s.all fun p => p.2.refs.all ok) then some ⟨e, s, maxN (lo :: names.map (· + 1))⟩ else none

abbrev Kont (R : Type) := Ex → St → Option R
abbrev Run (R : Type) := St → Kont R → Option R

def kSeq {R : Type} (b : Run R) (K : Kont R) : Kont R := fun ex st => match ex with
  | .normal => b st K
  | ex => K ex st

/-- behind a round only what is kept goes on -/
def kRes {R : Type} (lo : Nat) (kp : Option (List Nat)) (K : Kont R) : Kont R := fun ex st => match restrict lo kp st with
  | some st1 => K ex st1
  | none => none

def loopK {R : Type} (lo : Nat) (kp : Option (List Nat)) (b : Run R) : Nat → Run R
  | 0, _, _ => none
  | n + 1, st, K => b st (kRes lo kp (kSeq (loopK lo kp b n) K))

def kBlock {R : Type} (id : Nat) (K : Kont R) : Kont R := fun ex st => match ex with
  | .exit i => bif Nat.beq i id then K .normal st else K (.exit i) st
  | ex => K ex st
def kRegion {R : Type} (mixed draw : Bool) (ops : Array Oper) (K : Kont R) : Foots → St → Option R := fun fs st =>
  bif draw then (bif drawF mixed ops fs then K .normal st else none) else K .normal st

def keepOf (C : Cfg) (f : Nat) (bk : Option Nat) : Option (List Nat) :=
  match bk with
  | some id => C.keep f id
  | none => none

/-- a loop by its model -/
def known (C : Cfg) (f lo : Nat) (bk : Option Nat) (st : St) : Option (Bool × Ex × St) :=
  match bk with
  | none => none
  | some id => C.L f id lo st
def knowns (C : Cfg) (f lo : Nat) (bk : Option Nat) (st : St) : Option (List (Bool × Ex × St)) :=
  match bk with
  | none => none
  | some id => C.LL f id lo st

def execK {R : Type} (C : Cfg) (f lo nt : Nat) (call : CallF) (m : Nat) : Option Nat → Code → St → Kont R → Option R
  | _, .skip, st, K => K .normal st
  | _, .region _ ops draw, st, K => opsK C call lo nt ops.toList ops.toList 0 [] st (kRegion (C.P.follows .mixedOrders) draw ops K)
  | _, .seq a b, st, K => execK C f lo nt call m none a st (kSeq (execK C f lo nt call m none b) K)
  | _, .cond c a b, st, K =>
    (match c with
     | .tmp t => (match look t st.env with
       | .bool x => bif x then execK C f lo nt call m none a ⟨(t, .bool true) :: st.env, st.sto, st.nxt⟩ K
           else execK C f lo nt call m none b ⟨(t, .bool false) :: st.env, st.sto, st.nxt⟩ K
       | _ => none)
     | _ => none)
  | _, .block id body, st, K => execK C f lo nt call m (some id) body st (kBlock id K)
  | bk, .loop body, st, K => match restrict lo (keepOf C f bk) st with
    | none => none
    | some st => match knowns C f lo bk st with
      | some alts => altK (fun p => K p.1 p.2) alts
      | none => match known C f lo bk st with
      | some (c, ex, st') => bif c then K ex st' else none
      | none => loopK lo (keepOf C f bk) (execK C f lo nt call m none body) m st K
  | _, .exit id, st, K => K (.exit id) st
  | _, .ret, st, K => K .ret st
  | _, _, _, _ => none

/-- the loops in a code, by their blocks -/
def loopsOf : Code → List (Nat × Code)
  | .seq a b => loopsOf a ++ loopsOf b
  | .cond _ a b => loopsOf a ++ loopsOf b
  | .block id (.loop body) => (id, body) :: loopsOf body
  | .block _ body => loopsOf body
  | .loop body => loopsOf body
  | _ => []

def tupV : List AV → AV
  | [v] => v
  | vs => .tuple vs

def AV.isTup : AV → Bool
  | .tuple _ => true
  | _ => false

def resultA (P : Program) (e : Env) (s : Sto) : ResultVar → Option AV
  | .tmp t => some (look t e)
  | .cell a t => match loadA P s t (look a e) with
    | some (true, v, _) => some v
    | _ => none

/-- what a call hands back: its value, read now as far as it names boxes of the call's own; the boxes -/
def finishA (P : Program) (fn : Func) (lo : Nat) (st : St) : Option (AV × Upd × Nat) :=
  match pureR (resultA P st.env st.sto) fn.results.toList with
  | none => none
  | some vs =>
    let v := tupV vs
    let s := freeze st.sto lo (slRefs v) ++ st.sto
    match pureV s lo v with
    | none => none
    | some v' =>
      bif !((List.range lo).all fun x => (lookB x s).isSome) || vs.any AV.isTup then none else
      let outs := subSto s (List.range lo)
      bif (v'.refs.all fun x => !Nat.ble lo x) && (outs.all fun p => p.2.refs.all fun x => !Nat.ble lo x) then some (v', outs, lo)
      else some (v', s, st.nxt)
where
  pureR (g : ResultVar → Option AV) : List ResultVar → Option (List AV)
    | [] => some []
    | r :: l => match g r, pureR g l with
      | some a, some b => some (a :: b)
      | _, _ => none

/-- the same, but rows that are handed on may still be written -/
def finishM (P : Program) (fn : Func) (lo : Nat) (st : St) : Option (AV × Upd × Nat) :=
  match finishA.pureR (resultA P st.env st.sto) fn.results.toList with
  | none => none
  | some vs => bif !((List.range lo).all fun x => (lookB x st.sto).isSome) || vs.any AV.isTup then none else some (tupV vs, st.sto, st.nxt)
def finishW (C : Cfg) (f : Nat) (fn : Func) (lo : Nat) (st : St) : Option (AV × Upd × Nat) := bif C.muts f then finishM C.P fn lo st else finishA C.P fn lo st

def params : Nat → List AV → Env
  | _, [] => []
  | i, v :: l => (i, v) :: params (i + 1) l

def kFin (C : Cfg) (f : Nat) (fn : Func) (lo : Nat) : Kont (AV × Upd × Nat) := fun ex st => match ex with
  | .exit _ => none
  | _ => finishW C f fn lo st

/-- a call whose own calls are given -/
def callB (C : Cfg) (call : CallF) (m : Nat) : CallF := fun f as s lo =>
  match C.P.funcs[f]? with
  | none => none
  | some fn =>
    match fn.body with
    | none => none
    | some c => execK C f lo fn.ntmps call m none c ⟨params 0 as, s, lo⟩ (kFin C f fn lo)

def callD (C : Cfg) : Nat → CallF
  | 0, _, _, _, _ => none
  | n + 1, f, as, s, lo => callB C (callD C n) n f as s lo

/-- a call that is followed -/
def callCK (C : Cfg) (call : CallF) (m : Nat) (R : Type) (f : Nat) (as : List AV) (s : Sto) (lo : Nat) (k : AV × Upd × Nat → Option R) : Option R :=
  match C.P.funcs[f]? with
  | none => none
  | some fn =>
    match fn.body with
    | none => none
    | some c => execK C f lo fn.ntmps call m none c ⟨params 0 as, s, lo⟩ fun ex st => match ex with
      | .exit _ => none
      | _ => match finishW C f fn lo st with
        | some p => k p
        | none => none

end Am
end Go.Proofs.Ytooiechjanmdjaa
