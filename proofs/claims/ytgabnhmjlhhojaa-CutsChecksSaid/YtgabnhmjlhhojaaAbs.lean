/- An abstract interpreter for compiled Go code: values where slices that never change are lists, and a store of the boxes and arrays that may be written. Generic: no program is named. -/
import GoSem.Step
import Derived.KernelRfl
namespace Go.Proofs.Ytgabnhmjlhhojaa.A
open Go

/-- abstract values -/
inductive AV where
  | any
  | bool (b : Bool)
  | int (k : IntKind) (n : Int)
  | str (s : ByteArray)
  | nilf
  | nilp
  | nils
  | emps
  | ptr (r i off : Nat)
  | vptr (cs : List AV)
  | own (r lo n : Nat) (full : Bool)
  | sl (sz : Nat) (es : List (List AV))
  | fsl (sz : Nat) (es : List (List AV))
  | agg (cs : List AV)
  | tup (vs : List AV)
  | fn (f : Fn) (first captured : List AV)
  | yld (r : Nat)
  /-- a map that lies in the store -/
  | mref (r : Nat)
  deriving Inhabited

inductive Opd where
  | t (n : Nat)
  | c (v : AV)
  | g (n : Nat)
  | f (n : Nat)
  deriving Inhabited

inductive AO where
  | move (x : Opd)
  | pick (c a b : Opd)
  | alloc (ty : Nat) (zero : List AV)
  | box (ty : Nat) (x : Opd)
  | build (zero : List AV) (parts : List (Nat × Nat × Opd))
  | buildSl (sz : Nat) (zero : List AV) (len : Nat) (parts : List (Nat × Opd))
  | mksl (sz : Nat) (zero : List AV) (x : Opd)
  | load (agg : Bool) (sz : Nat) (a : Opd)
  | store (sz : Nat) (a v : Opd)
  | nilck (x : Opd)
  | bin (op : BinOp) (x y : Opd)
  | beq (neg : Bool) (x y : Opd)
  | sh (left : Bool) (x y : Opd)
  | aeq (ks : List Nat) (neg : Bool) (x y : Opd)
  | isnil (k : Nat) (neg : Bool) (x : Opd)
  | not (x : Opd)
  | neg (x : Opd)
  | com (x : Opd)
  | conv (k : IntKind) (x : Opd)
  | same (x : Opd)
  | mkfn (f : Fn) (first captured : List Opd)
  | fieldA (off : Nat) (x : Opd)
  | field (agg : Bool) (off sz : Nat) (x : Opd)
  | idxA (sz : Nat) (x i : Opd)
  | idxV (sz : Nat) (x i : Opd)
  | idxArrA (n sz : Nat) (x i : Opd)
  | idxS (x i : Opd)
  | slice (sz : Nat) (x : Opd) (lo hi mx : Option Opd)
  | sliceS (x : Opd) (lo hi : Option Opd)
  | extract (x : Opd) (i : Nat)
  | len (x : Opd)
  | lenS (x : Opd)
  | append (ty sz bytes : Nat) (s x : Opd)
  | max2 (x y : Opd)
  | min2 (x y : Opd)
  | call (f : Nat) (args : List Opd)
  | callv (f : Opd) (args : List Opd)
  | mkmap
  | mapset (str : Bool) (m k v : Opd)
  | mapget (str ok agg : Bool) (zero : List AV) (m k : Opd)
  | add64 (x y c : Opd)
  deriving Inhabited

structure AOp where
  dst : Option Nat
  op : AO
  guard : Option (Nat × Bool) := none
  deriving Inhabited

inductive AC where
  | skip
  | ops (l : List AOp) (draw : Bool)
  | opsW (l : List AOp)
  | opsV (l : List AOp)
  | seq (a b : AC)
  | cond (c : Opd) (a b : AC)
  | block (id : Nat) (c : AC)
  | loop (c : AC)
  | range (f : Opd) (params : List Nat) (asg body : AC)
  | exit (id : Nat)
  | ret
  deriving Inhabited

inductive ARes where
  | tmp (t : Nat)
  | cell (a : Nat) (agg : Bool) (sz : Nat)
  deriving Inhabited

structure AF where
  ntmps : Nat
  results : List ARes
  body : AC
  pure : Bool
  deriving Inhabited

inductive AE where
  | norm
  | exit (id : Nat)
  | ret

inductive Obj where
  | arr (ty sz : Nat) (es : List (List AV))
  | dead
  | dfr
  | loop (state : LoopState) (pending : Option AE) (fr : List AV) (params : List Nat) (asg body : AC)
  | mp (es : List (AV × AV))

structure St where
  objs : List Obj
  ro : Nat
  df : List Nat

/-- the program's function: a number above 1000000 names a function that leaves what it makes to its caller -/
def rl (f : Nat) : Nat := f % 1000000
def rlF : Fn → Fn
  | .func f => .func (rl f)
  | f => f

/-- the cells of a value -/
def AV.cells : AV → List AV
  | .agg cs => cs
  | v => [v]

def AV.one : AV → Bool
  | .agg _ | .tup _ | .any => false
  | _ => true

mutual
/-- no reference into the store; no slice that is known to be full -/
def AV.flat : AV → Bool
  | .ptr .. | .own .. | .yld .. | .mref .. => false
  | .vptr cs | .agg cs | .tup cs => AV.flatL cs
  | .sl _ es => AV.flatLL es
  | .fsl .. => false
  | .fn _ a b => AV.flatL a && AV.flatL b
  | _ => true
def AV.flatL : List AV → Bool
  | [] => true
  | v :: l => v.flat && AV.flatL l
def AV.flatLL : List (List AV) → Bool
  | [] => true
  | v :: l => AV.flatL v && AV.flatLL l
end

/-- a constant's atom -/
def ofV1 : Value → AV
  | .bool b => .bool b
  | .int k n => .int k n
  | .string s => .str s
  | .nilFunc => .nilf
  | .pointer none => .nilp
  | .slice none 0 0 => .fsl 0 []
  | _ => .any

def ofV : Value → AV
  | .agg cs => .agg (cs.toList.map ofV1)
  | v => ofV1 v

def slot (fr : List AV) (n : Nat) : AV := fr.getD n .any

/-- what package-level variables hold, cell by cell (by the seat) -/
def globs : Nat → Option (List AV)
  | _ => none

def ev (fr : List AV) : Opd → AV
  | .t n => slot fr n
  | .c v => v
  | .g n => (match globs n with | some cs => .vptr cs | none => .any)
  | .f f => .fn (.func f) [] []

def evs (fr : List AV) : List Opd → List AV
  | [] => []
  | x :: l => ev fr x :: evs fr l

/-- that a slice is full is forgotten -/
def can1 : AV → AV
  | .fsl sz es => .sl sz es
  | v => v

def canL : List AV → List AV
  | [] => []
  | v :: l => can1 v :: canL l

def canA : AV → AV
  | .agg cs => .agg (canL cs)
  | v => v

def canAL : List AV → List AV
  | [] => []
  | v :: l => canA v :: canAL l

def put (fr : List AV) (d : Option Nat) (v : AV) : List AV :=
  match d with
  | some d => fr.set d v
  | none => fr

def setMany : List AV → Nat → List AV → List AV
  | cs, _, [] => cs
  | cs, o, x :: xs => setMany (cs.set o x) (o + 1) xs

def fill (fr : List AV) : List (Nat × Nat × Opd) → List AV → Option (List AV)
  | [], cs => some cs
  | (o, n, x) :: r, cs =>
    if (ev fr x).cells.length = n ∧ o + n ≤ cs.length ∧ (ev fr x).cells.all AV.one = true then fill fr r (setMany cs o (ev fr x).cells) else none

def fillSl (fr : List AV) (sz : Nat) : List (Nat × Opd) → List (List AV) → Option (List (List AV))
  | [], es => some es
  | (i, x) :: r, es => if (ev fr x).cells.length = sz ∧ i < es.length ∧ (ev fr x).cells.all AV.one = true then fillSl fr sz r (es.set i (canL (ev fr x).cells)) else none

/-- the object at r, an array -/
def St.arr? (st : St) (r : Nat) : Option (Nat × Nat × List (List AV)) :=
  match st.objs[r]? with
  | some (.arr ty sz es) => some (ty, sz, es)
  | _ => none

def St.push (st : St) (o : Obj) : St := { st with objs := st.objs ++ [o] }
def St.set (st : St) (r : Nat) (o : Obj) : St := { st with objs := st.objs.set r o }

/-- cells as a value -/
def val (agg : Bool) (cs : List AV) : Option AV :=
  if agg then some (.agg cs) else match cs with | [v] => some v | _ => none

def ld (st : St) (agg : Bool) (sz : Nat) : AV → Option AV
  | .ptr r i off =>
    match st.arr? r with
    | some (_, _, es) =>
      match es[i]? with
      | some e => if off + sz ≤ e.length then val agg ((e.drop off).take sz) else none
      | none => none
    | none => none
  | .vptr cs => if sz ≤ cs.length then val agg (cs.take sz) else none
  | _ => none

def sto (st : St) (sz : Nat) (a v : AV) : Option St :=
  match a with
  | .ptr r i off =>
    match st.arr? r with
    | some (ty, s, es) =>
      match es[i]? with
      | some e =>
        if v.cells.length = sz ∧ off + sz ≤ e.length ∧ v.cells.all AV.one = true ∧ st.ro ≤ r then
          some (st.set r (.arr ty s (es.set i (setMany e off v.cells))))
        else none
      | none => none
    | none => none
  | _ => none

def bytesLt (x y : ByteArray) : Bool := Op.bytesLess x.toList y.toList
def bytesEq (x y : ByteArray) : Bool := x.toList == y.toList

def bitI (op : BinOp) (k : IntKind) (x y : Int) : Int :=
  match op with
  | .and => k.wrap (BitVec.ofInt k.bits x &&& BitVec.ofInt k.bits y).toNat
  | .or => k.wrap (BitVec.ofInt k.bits x ||| BitVec.ofInt k.bits y).toNat
  | .xor => k.wrap (BitVec.ofInt k.bits x ^^^ BitVec.ofInt k.bits y).toNat
  | _ => k.wrap (BitVec.ofInt k.bits x &&& ~~~ BitVec.ofInt k.bits y).toNat

/-- all bits turned -/
def comI (k : IntKind) (x : Int) : AV := .int k (bitI .xor k (if k.signed then -1 else k.max) x)

/-- shifted -/
def shI (left : Bool) (k : IntKind) (x y : Int) : Option AV :=
  if y < 0 then none else bif left then some (.int k (k.wrap (x * 2 ^ min y.toNat k.bits))) else some (.int k (x.fdiv (2 ^ min y.toNat k.bits)))

/-- two plain cells, of a bool, a string or a number -/
def eqCell : Nat → AV → AV → Option Bool
  | 0, .bool a, .bool b => some (a == b)
  | 1, .str a, .str b => some (bytesEq a b)
  | 2, .int k a, .int k' b => if k = k' then some (a == b) else none
  | _, _, _ => none

/-- two structs of plain cells -/
def eqCells : List Nat → List AV → List AV → Option Bool
  | [], [], [] => some true
  | k :: ks, a :: l, b :: m => (match eqCell k a b with | some t => (match eqCells ks l m with | some u => some (t && u) | none => none) | none => none)
  | _, _, _ => none

/-- is it nil, as far as known? -/
def nilOf : Nat → AV → Option Bool
  | 0, .nils => some true
  | 0, .emps => some false
  | 0, .sl _ (_ :: _) => some false
  | 0, .fsl _ (_ :: _) => some false
  | 0, .own _ _ (_ + 1) _ => some false
  | 1, .nilp => some true
  | 1, .ptr .. => some false
  | 1, .vptr _ => some false
  | 2, .nilf => some true
  | 2, .fn .. => some false
  | _, _ => none

def binI (op : BinOp) (k : IntKind) (x y : Int) : Option AV :=
  match op with
  | .add => some (.int k (k.wrap (x + y)))
  | .sub => some (.int k (k.wrap (x - y)))
  | .mul => some (.int k (k.wrap (x * y)))
  | .quo => if y = 0 then none else some (.int k (k.wrap (x.tdiv y)))
  | .rem => if y = 0 then none else some (.int k (x.tmod y))
  | .eql => some (.bool (x == y))
  | .neq => some (.bool (x != y))
  | .lss => some (.bool (decide (x < y)))
  | .leq => some (.bool (decide (x ≤ y)))
  | .gtr => some (.bool (decide (x > y)))
  | .geq => some (.bool (decide (x ≥ y)))
  | .and => some (.int k (bitI .and k x y))
  | .or => some (.int k (bitI .or k x y))
  | .xor => some (.int k (bitI .xor k x y))
  | .andNot => some (.int k (bitI .andNot k x y))
  | _ => none

def binS (op : BinOp) (x y : ByteArray) : Option AV :=
  match op with
  | .eql => some (.bool (bytesEq x y))
  | .neq => some (.bool !(bytesEq x y))
  | .lss => some (.bool (bytesLt x y))
  | .leq => some (.bool (bytesLt x y || bytesEq x y))
  | .gtr => some (.bool !(bytesLt x y || bytesEq x y))
  | .geq => some (.bool !(bytesLt x y))
  | _ => none

def bin (op : BinOp) : AV → AV → Option AV
  | .int k x, .int k' y => if k = k' then binI op k x y else none
  | .str x, .str y => binS op x y
  | _, _ => none

/-- an index within -/
def inB (i : Int) (n : Nat) : Bool := decide (0 ≤ i) && decide (i < (n : Int))

def idxA (st : St) (sz : Nat) : AV → AV → Option AV
  | .sl s es, .int _ i => if inB i es.length = true ∧ s = sz then some (.vptr (es.getD i.toNat [])) else none
  | .fsl s es, .int _ i => if inB i es.length = true ∧ s = sz then some (.vptr (es.getD i.toNat [])) else none
  | .own r lo n _, .int _ i =>
    match st.arr? r with
    | some (_, s, es) => if inB i n = true ∧ s = sz ∧ lo + n ≤ es.length then some (.ptr r (lo + i.toNat) 0) else none
    | none => none
  | _, _ => none

/-- a place in a slice that is a list by value -/
def idxV (sz : Nat) : AV → AV → Option AV
  | .sl s es, .int _ i => if inB i es.length = true ∧ s = sz then some (.vptr (es.getD i.toNat [])) else none
  | .fsl s es, .int _ i => if inB i es.length = true ∧ s = sz then some (.vptr (es.getD i.toNat [])) else none
  | _, _ => none

def idxArrA (n sz : Nat) : AV → AV → Option AV
  | .ptr r i off, .int _ j => if inB j n then some (.ptr r i (off + j.toNat * sz)) else none
  | .vptr cs, .int _ j => if inB j n then some (.vptr (cs.drop (j.toNat * sz))) else none
  | _, _ => none

def natB (o : Option AV) (d : Nat) (lo hi : Nat) : Option Nat :=
  match o with
  | none => some d
  | some (.int _ i) => if (lo : Int) ≤ i ∧ i ≤ (hi : Int) then some i.toNat else none
  | _ => none

def slcL (s : Nat) (es : List (List AV)) (full : Bool) (lo hi mx : Option AV) : Option AV :=
  match natB hi es.length 0 es.length with
  | some h =>
    match natB lo 0 0 h with
    | some l =>
      match mx with
      | none => some (bif full && h == es.length then .fsl s ((es.take h).drop l) else .sl s ((es.take h).drop l))
      | some (.int _ m) => if m = (h : Int) then some (.fsl s ((es.take h).drop l)) else none
      | _ => none
    | none => none
  | none => none

def slc (st : St) (sz : Nat) (x : AV) (lo hi mx : Option AV) : Option AV :=
  match x with
  | .sl s es => if (s == sz || es.isEmpty) = true then slcL s es false lo hi mx else none
  | .fsl s es => if (s == sz || es.isEmpty) = true then slcL s es true lo hi mx else none
  | .own r o n full =>
    match st.arr? r with
    | some (_, s, _) =>
      if s = sz then
        match natB hi n 0 n with
        | some h =>
          match natB lo 0 0 h with
          | some l =>
            match mx with
            | none => if (full && h != n) = true then none else some (.own r (o + l) (h - l) full)
            | some (.int _ m) => if m = (h : Int) then some (.own r (o + l) (h - l) true) else none
            | _ => none
          | none => none
        | none => none
      else none
    | none => none
  | _ => none

def slcS (x : AV) (lo hi : Option AV) : Option AV :=
  match x with
  | .str s =>
    match natB hi s.size 0 s.size with
    | some h =>
      match natB lo 0 0 h with
      | some l => some (.str (s.extract l h))
      | none => none
    | none => none
  | _ => none

def lenOf : AV → Option Nat
  | .sl _ es => some es.length
  | .fsl _ es => some es.length
  | .own _ _ n _ => some n
  | .nils | .emps => some 0
  | _ => none

/-- the elements of a slice -/
def elems (st : St) : AV → Option (Nat × List (List AV))
  | .sl sz es => some (sz, es)
  | .fsl sz es => some (sz, es)
  | .nils | .emps => some (0, [])
  | .own r lo n _ =>
    match st.arr? r with
    | some (_, sz, es) => if lo + n ≤ es.length then some (sz, (es.drop lo).take n) else none
    | none => none
  | _ => none

def room (n bytes : Nat) : Bool := decide (n * bytes ≤ 140737488355328) && decide (n ≤ 4611686018427387904)

/-- append: the grown array is a new object; an owned array that was not full is gone -/
def app (st : St) (ty sz bytes : Nat) (s x : AV) : Option (AV × St) :=
  match elems st x with
  | none => none
  | some (sx, xs) =>
    if ¬ (sx = sz ∨ xs = []) then none else
    match s with
    | .fsl ss es =>
      if xs = [] ∧ es ≠ [] then some (.fsl ss es, st) else
      if (es = [] ∨ (ss = sz ∧ xs ≠ [])) ∧ room (es.length + xs.length) bytes = true then
        some (.own st.objs.length 0 (es.length + xs.length) false, st.push (.arr ty sz (es ++ xs)))
      else none
    | .own r lo n false =>
      match st.arr? r with
      | some (t, s', es) =>
        if lo = 0 ∧ n = es.length ∧ s' = sz ∧ t = ty ∧ st.ro ≤ r ∧ room (es.length + xs.length) bytes = true then
          some (.own st.objs.length 0 (es.length + xs.length) false, (st.set r .dead).push (.arr ty sz (es ++ xs)))
        else none
      | none => none
    | .own r lo n true =>
      match st.arr? r with
      | some (t, s', es) =>
        if lo + n ≤ es.length ∧ s' = sz ∧ t = ty ∧ xs ≠ [] ∧ room (n + xs.length) bytes = true then
          some (.own st.objs.length 0 (n + xs.length) false, st.push (.arr ty sz ((es.drop lo).take n ++ xs)))
        else none
      | none => none
    | _ => none

/-- what stands for calls and loops -/
structure Orc where
  call : Nat → List AV → St → Option (AV × St)
  yield : Nat → List AV → St → Option (AV × St)
  loop : Bool → AC → List AV → St → Option (AE × List AV × St)

def callV (O : Orc) (f : AV) (args : List AV) (st : St) : Option (AV × St) :=
  match f with
  | .fn (.func f) first captured => O.call f (first ++ args ++ captured) st
  | .yld r => O.yield r args st
  | _ => none

/-- a call of a function value that is no loop's body -/
def callF (O : Orc) (f : AV) (args : List AV) (st : St) : Option (AV × St) :=
  match f with
  | .fn (.func f) first captured => O.call f (first ++ args ++ captured) st
  | _ => none

/-- a sum with its carry -/
def add64A : AV → AV → AV → Option AV
  | .int .u64 a, .int .u64 b, .int .u64 c => if a = ((a.toNat : Nat) : Int) ∧ b = ((b.toNat : Nat) : Int) ∧ c = ((c.toNat : Nat) : Int) ∧ c.toNat ≤ 1 then
      some (.tup [.int .u64 (((a.toNat + b.toNat + c.toNat) % 18446744073709551616 : Nat) : Int), .int .u64 (((a.toNat + b.toNat + c.toNat) / 18446744073709551616 : Nat) : Int)]) else none
  | _, _, _ => none

/-- keys of a map: strings, or numbers of one kind -/
def keyEq : Bool → AV → AV → Option Bool
  | false, .int k x, .int k' y => if k = k' then some (x == y) else none
  | true, .str a, .str b => some (decide (a.data.toList = b.data.toList))
  | _, _, _ => none
def mpGet (str : Bool) (k : AV) : List (AV × AV) → Option (Option AV)
  | [] => some none
  | (a, v) :: l => match keyEq str k a with
    | some true => some (some v)
    | some false => mpGet str k l
    | none => none
def mpSet (str : Bool) (k v : AV) : List (AV × AV) → Option (List (AV × AV))
  | [] => some [(k, v)]
  | (a, u) :: l => match keyEq str k a with
    | some true => some ((k, v) :: l)
    | some false => (match mpSet str k v l with | some l' => some ((a, u) :: l') | none => none)
    | none => none
def St.map? (st : St) (r : Nat) : Option (List (AV × AV)) :=
  match st.objs[r]? with
  | some (.mp es) => some es
  | _ => none
def mset (st : St) (str : Bool) (m k v : AV) : Option (AV × St) :=
  match m with
  | .mref r => match st.map? r with
    | some es => if st.ro ≤ r then (match mpSet str k v es with | some es' => some (.any, st.set r (.mp es')) | none => none) else none
    | none => none
  | _ => none
def mget (st : St) (str ok agg : Bool) (z : List AV) (m k : AV) : Option AV :=
  match m with
  | .mref r => match st.map? r with
    | some es => match mpGet str k es with
      | some (some v) => some (bif ok then .tup [v, .bool true] else v)
      | some none => (match val agg z with | some v => some (bif ok then .tup [v, .bool false] else v) | none => none)
      | none => none
    | none => none
  | _ => none

/-- an operation that touches no store -/
def opt (st : St) (o : Option AV) : Option (AV × St) :=
  match o with
  | some v => some (v, st)
  | none => none

def exOp (O : Orc) (fr : List AV) (st : St) : AO → Option (AV × St)
  | .move x => some (ev fr x, st)
  | .pick c a b => match ev fr c with | .bool t => some (bif t then ev fr a else ev fr b, st) | _ => none
  | .alloc ty z => some (.ptr st.objs.length 0 0, st.push (.arr ty z.length [z]))
  | .box ty x => if (ev fr x).cells.all AV.one = true ∧ 0 < (ev fr x).cells.length then some (.ptr st.objs.length 0 0, st.push (.arr ty (ev fr x).cells.length [(ev fr x).cells])) else none
  | .build z ps => match fill fr ps z with | some cs => some (.agg cs, st) | none => none
  | .buildSl sz z n ps =>
    match fillSl fr sz ps (List.replicate n z) with
    | some es => if es.all (·.all AV.one) = true then some (.fsl sz es, st) else none
    | none => none
  | .mksl sz z x =>
    match ev fr x with
    | .int _ n => if (0 ≤ n ∧ n ≤ 1000000) ∧ z.all AV.one = true then some (.fsl sz (List.replicate n.toNat (canL z)), st) else none
    | _ => none
  | .load agg sz a => opt st (ld st agg sz (ev fr a))
  | .store sz a v => match sto st sz (ev fr a) (ev fr v) with | some st' => some (.any, st') | none => none
  | .nilck x => match ev fr x with
    | .ptr r i o => some (.ptr r i o, st)
    | .vptr cs => some (.vptr cs, st)
    | .fn (.func f) a b => some (.fn (.func f) a b, st)
    | .yld r => some (.yld r, st)
    | _ => none
  | .bin op x y => opt st (bin op (ev fr x) (ev fr y))
  | .beq n x y => match ev fr x, ev fr y with | .bool a, .bool b => some (.bool (xor n (a == b)), st) | _, _ => none
  | .sh l x y => match ev fr x, ev fr y with | .int k a, .int _ b => opt st (shI l k a b) | _, _ => none
  | .aeq ks n x y => match ev fr x, ev fr y with | .agg a, .agg b => (match eqCells ks a b with | some t => some (.bool (xor n t), st) | none => none) | _, _ => none
  | .isnil k n x => match nilOf k (ev fr x) with | some t => some (.bool (xor n t), st) | none => none
  | .not x => match ev fr x with | .bool a => some (.bool !a, st) | _ => none
  | .neg x => match ev fr x with | .int k a => some (.int k (k.wrap (0 - a)), st) | _ => none
  | .com x => match ev fr x with | .int k a => some (comI k a, st) | _ => none
  | .conv k x => match ev fr x with | .int _ a => some (.int k (k.wrap a), st) | _ => none
  | .same x => match ev fr x with | .str s => some (.str s, st) | _ => none
  | .mkfn f a b => some (.fn f (evs fr a) (evs fr b), st)
  | .fieldA off x => match ev fr x with
    | .ptr r i o => some (.ptr r i (o + off), st)
    | .vptr cs => some (.vptr (cs.drop off), st)
    | _ => none
  | .field agg off sz x => match ev fr x with
    | .agg cs => if off + sz ≤ cs.length then opt st (val agg ((cs.drop off).take sz)) else none
    | _ => none
  | .idxA sz x i => opt st (idxA st sz (ev fr x) (ev fr i))
  | .idxV sz x i => opt st (idxV sz (ev fr x) (ev fr i))
  | .idxArrA n sz x i => opt st (idxArrA n sz (ev fr x) (ev fr i))
  | .idxS x i => match ev fr x, ev fr i with
    | .str s, .int _ i => if inB i s.size then some (.int .u8 (s.data.toList.getD i.toNat 0).toNat, st) else none
    | _, _ => none
  | .slice sz x lo hi mx => opt st (slc st sz (ev fr x) (lo.map (ev fr)) (hi.map (ev fr)) (mx.map (ev fr)))
  | .sliceS x lo hi => opt st (slcS (ev fr x) (lo.map (ev fr)) (hi.map (ev fr)))
  | .extract x i => match ev fr x with
    | .tup vs => (match vs[i]? with | some v => some (v, st) | none => none)
    | _ => none
  | .len x => match lenOf (ev fr x) with | some n => some (.int .i64 n, st) | none => none
  | .lenS x => match ev fr x with | .str s => some (.int .i64 s.size, st) | _ => none
  | .append ty sz b s x => app st ty sz b (ev fr s) (ev fr x)
  | .max2 x y => match ev fr x, ev fr y with
    | .int k a, .int k' b => if k = k' then some (.int k (if b > a then b else a), st) else none
    | _, _ => none
  | .min2 x y => match ev fr x, ev fr y with
    | .int k a, .int k' b => if k = k' then some (.int k (if b < a then b else a), st) else none
    | _, _ => none
  | .call f args => O.call f (canAL (evs fr args)) st
  | .callv f args => callV O (ev fr f) (canAL (evs fr args)) st
  | .mkmap => some (.mref st.objs.length, st.push (.mp []))
  | .mapset s m k v => mset st s (ev fr m) (ev fr k) (ev fr v)
  | .mapget s ok agg z m k => opt st (mget st s ok agg z (ev fr m) (ev fr k))
  | .add64 x y c => opt st (add64A (ev fr x) (ev fr y) (ev fr c))

/-- the place that a store writes to -/
def target (fr : List AV) : AO → List (Nat × Nat × Nat × Nat)
  | .store sz a _ => match ev fr a with | .ptr r i off => [(r, i, off, sz)] | _ => []
  | _ => []

/-- a guard's slot: a bool, or what a skipped operation leaves -/
def gd : AV → Option (Option Bool)
  | .bool b => some (some b)
  | .tup [] => some none
  | _ => none

def exStep (O : Orc) (o : AOp) (fr : List AV) (st : St) : Option (List AV × St) :=
  match o.guard with
  | none => match exOp O fr st o.op with | some (v, st') => some (put fr o.dst v, st') | none => none
  | some (j, want) =>
    match gd (slot fr j) with
    | some x =>
      bif x == some want then
        match exOp O fr st o.op with | some (v, st') => some (put fr o.dst v, st') | none => none
      else some (put fr o.dst (.tup []), st)
    | none => none

def exOps (O : Orc) : List AOp → List AV → St → Option (List AV × St)
  | [], fr, st => some (fr, st)
  | o :: l, fr, st =>
    match exStep O o fr st with
    | some (fr', st') => exOps O l fr' st'
    | none => none

/-- two written places that do not meet -/
def apart2 (x y : Nat × Nat × Nat × Nat) : Bool :=
  x.1 != y.1 || x.2.1 != y.2.1 || decide (x.2.2.1 + x.2.2.2 ≤ y.2.2.1) || decide (y.2.2.1 + y.2.2.2 ≤ x.2.2.1)

def allApart : List (Nat × Nat × Nat × Nat) → Bool
  | [] => true
  | x :: l => l.all (apart2 x) && allApart l

/-- a statement whose order is open: its stores must go to places apart -/
def exDraw (O : Orc) : List AOp → List (Nat × Nat × Nat × Nat) → List AV → St → Option (List AV × St)
  | [], ts, fr, st => if allApart ts = true then some (fr, st) else none
  | o :: l, ts, fr, st =>
    match exStep O o fr st with
    | some (fr', st') => exDraw O l (target fr o.op ++ ts) fr' st'
    | none => none

mutual
def AV.beq : AV → AV → Bool
  | .any, .any => true
  | .bool a, .bool b => a == b
  | .int k a, .int k' b => decide (k = k') && decide (a = b)
  | .str a, .str b => decide (a.data.toList = b.data.toList)
  | .nilf, .nilf => true
  | .nilp, .nilp => true
  | .nils, .nils => true
  | .emps, .emps => true
  | .ptr a b c, .ptr a' b' c' => a == a' && b == b' && c == c'
  | .vptr a, .vptr b => AV.beqL a b
  | .own a b c d, .own a' b' c' d' => a == a' && b == b' && c == c' && d == d'
  | .sl a b, .sl a' b' => a == a' && AV.beqLL b b'
  | .fsl a b, .fsl a' b' => a == a' && AV.beqLL b b'
  | .agg a, .agg b => AV.beqL a b
  | .tup a, .tup b => AV.beqL a b
  | .fn f a b, .fn f' a' b' => decide (f = f') && AV.beqL a a' && AV.beqL b b'
  | .yld a, .yld b => a == b
  | .mref a, .mref b => a == b
  | _, _ => false
def AV.beqL : List AV → List AV → Bool
  | [], [] => true
  | a :: l, b :: k => AV.beq a b && AV.beqL l k
  | _, _ => false
def AV.beqLL : List (List AV) → List (List AV) → Bool
  | [], [] => true
  | a :: l, b :: k => AV.beqL a b && AV.beqLL l k
  | _, _ => false
end

/-- what was read, and where: (whole, size, place, value) -/
abbrev Wt := Bool × Nat × AV × AV

/-- all that was read reads so still -/
def wsOk (st : St) : List Wt → Bool
  | [] => true
  | (g, sz, p, v) :: l => (match ld st g sz p with | some u => AV.beq u v | none => false) && wsOk st l

/-- may an operation, no store, change the store? -/
def effB : AO → Bool
  | .alloc .. | .box .. | .append .. | .call .. | .callv .. | .mkmap | .mapset .. | .mapget .. => true
  | _ => false

/-- is an operation run, as its guard says? -/
def ran (fr : List AV) (o : AOp) : Bool :=
  match o.guard with
  | none => true
  | some (j, w) => (match gd (slot fr j) with | some (some x) => x == w | _ => false)

def entry (o : AOp) (fr : List AV) (st : St) : List Wt :=
  match o.op with
  | .load g sz a => bif ran fr o then (match ld st g sz (ev fr a) with | some v => [(g, sz, ev fr a, v)] | none => []) else []
  | _ => []

/-- a statement whose order is open, with calls that write: what was read ahead must read so still -/
def exW (O : Orc) : List AOp → List Wt → List AV → St → Option (List AV × St)
  | [], _, fr, st => some (fr, st)
  | o :: l, ws, fr, st =>
    match exStep O o fr st with
    | some (fr', st') => if (effB o.op && !wsOk st' ws) = true then none else exW O l (entry o fr st ++ ws) fr' st'
    | none => none

/-- functions outside the table that, asked of what does not change, do not look into the store (by the seat) -/
def extP : Nat → Bool
  | 41 => true
  | 42 => true
  | 44 => true
  | _ => false

/-- may an operation change the store? -/
def loudV : AO → Bool
  | .alloc .. | .box .. | .append .. | .callv .. | .store .. | .mkmap | .mapset .. | .mapget .. => true
  | .call f _ => !extP f
  | _ => false

/-- what does not look into the store, when it is asked for its elements -/
def AV.still : AV → Bool
  | .fsl _ _ => true
  | v => v.flat
def AV.stillL : List AV → Bool
  | [] => true
  | v :: l => v.still && AV.stillL l

/-- a reading goes to what was there at the begin; what is asked of functions outside the table does not change -/
def oldOk (n0 : Nat) (o : AOp) (fr : List AV) : Bool :=
  match o.op with
  | .load _ _ a => !ran fr o || (match ev fr a with | .vptr _ => true | .ptr r _ _ => decide (r < n0) | _ => false)
  | .call f args => !ran fr o || !extP f || AV.stillL (canAL (evs fr args))
  | _ => true

/-- a statement whose order is open; what was read ahead of what writes must read so still -/
def exV (O : Orc) (n0 : Nat) : List AOp → List Wt → List AV → St → Option (List AV × St)
  | [], _, fr, st => some (fr, st)
  | o :: l, ws, fr, st =>
    match exStep O o fr st with
    | some (fr', st') => if ((loudV o.op && !wsOk st' ws) || !oldOk n0 o fr) = true then none else exV O n0 l (entry o fr st ++ ws) fr' st'
    | none => none

def bindP (fr : List AV) : List Nat → List AV → List AV
  | p :: ps, a :: as => bindP (fr.set p a) ps as
  | _, _ => fr

def exC (O : Orc) (rd : Bool) : AC → List AV → St → Option (AE × List AV × St)
  | .skip, fr, st => some (.norm, fr, st)
  | .ops l false, fr, st => match exOps O l fr st with | some (fr', st') => some (.norm, fr', st') | none => none
  | .ops l true, fr, st => match exDraw O l [] fr st with | some (fr', st') => some (.norm, fr', st') | none => none
  | .opsW l, fr, st => match exW O l [] fr st with | some (fr', st') => some (.norm, fr', st') | none => none
  | .opsV l, fr, st => match exV O st.objs.length l [] fr st with | some (fr', st') => some (.norm, fr', st') | none => none
  | .seq a b, fr, st =>
    match exC O rd a fr st with
    | some (.norm, fr', st') => exC O rd b fr' st'
    | r => r
  | .cond c a b, fr, st =>
    match ev fr c with
    | .bool t => bif t then exC O rd a fr st else exC O rd b fr st
    | _ => none
  | .block id c, fr, st =>
    match exC O rd c fr st with
    | some (.exit j, fr', st') => if j = id then some (.norm, fr', st') else some (.exit j, fr', st')
    | r => r
  | .loop c, fr, st => O.loop rd c fr st
  | .range f ps asg body, fr, st =>
    if rd then none else
    match callF O (ev fr f) [.yld (st.objs.length + 1)] { st with objs := st.objs ++ [.dfr, .loop .ready none fr ps asg body], df := st.objs.length :: st.df } with
    | some (_, st') =>
      match st'.objs[st.objs.length + 1]? with
      | some (.loop s p fr' ps' asg' body') =>
        match s with
        | .busy => none
        | _ => some (p.getD .norm, fr, st'.set (st.objs.length + 1) (.loop .exhausted p fr' ps' asg' body'))
      | _ => none
    | none => none
  | .exit id, fr, st => some (.exit id, fr, st)
  | .ret, fr, st => some (.ret, fr, st)

/-- one round of a loop over a function -/
def exYield (O : Orc) (r : Nat) (args : List AV) (st : St) : Option (AV × St) :=
  match st.objs[r]? with
  | some (.loop .ready none fr ps asg body) =>
    if args.length = ps.length ∧ st.ro ≤ r then
      match exC O true asg (bindP fr ps args) { st with df := [] } with
      | some (.norm, fr1, st1) =>
        match st1.objs[r]? with
        | some (.loop .ready none fr2 ps2 asg2 body2) =>
          match exC O true body fr1 (st1.set r (.loop .busy none fr2 ps2 asg2 body2)) with
          | some (e, _, st3) =>
            match st3.objs[r]? with
            | some (.loop .busy none fr4 ps4 asg4 body4) =>
              match e with
              | .norm => some (.bool true, { st3.set r (.loop .ready none fr4 ps4 asg4 body4) with df := st.df })
              | e => some (.bool false, { st3.set r (.loop .done (some e) fr4 ps4 asg4 body4) with df := st.df })
            | _ => none
          | none => none
        | _ => none
      | _ => none
    else none
  | _ => none

def resOf (st : St) (fr : List AV) : List ARes → Option (List AV)
  | [] => some []
  | .tmp t :: l => match resOf st fr l with | some vs => some (slot fr t :: vs) | none => none
  | .cell a agg sz :: l =>
    match ld st agg sz (slot fr a) with
    | some v => match resOf st fr l with | some vs => some (v :: vs) | none => none
    | none => none

def tupOf : List AV → AV
  | [v] => v
  | vs => .tup vs

def killAll : List Nat → List Obj → List Obj
  | [], o => o
  | r :: l, o => killAll l (o.set r .dead)

def mapO {α β : Type} (f : α → Option β) : List α → Option (List β)
  | [] => some []
  | x :: l => match f x with | some y => (match mapO f l with | some ys => some (y :: ys) | none => none) | none => none

/-- slices within slices, handed out -/
def deep : Nat → Nat → List Obj → AV → Option AV
  | 0, _, _, _ => none
  | k + 1, n, objs, v =>
    match v with
    | .own r lo m _ =>
      if r < n then none else
      match objs[r]? with
      | some (.arr _ sz es) => if lo + m ≤ es.length then (match mapO (mapO (deep k n objs)) ((es.drop lo).take m) with | some es' => some (.sl sz es') | none => none) else none
      | _ => none
    | .fsl sz es => if AV.flatLL es = true then some (.sl sz es) else none
    | v => if v.flat = true then some v else none

/-- what is handed out of a call that leaves the store alone -/
def hand0 (n : Nat) (objs : List Obj) : AV → Option AV
  | .ptr r i off =>
    if r < n then some (.ptr r i off) else
    match objs[r]? with
    | some (.arr _ _ es) =>
      match es[i]? with
      | some e => if AV.flatL e = true then some (.vptr (e.drop off)) else none
      | none => none
    | _ => none
  | .own r lo m full =>
    if r < n then some (.own r lo m full) else
    match objs[r]? with
    | some (.arr _ sz es) => if lo + m ≤ es.length ∧ AV.flatLL es = true then some (.sl sz ((es.drop lo).take m)) else deep 100000 n objs (.own r lo m full)
    | _ => none
  | .fsl sz es => if AV.flatLL es = true then some (.sl sz es) else none
  | .yld r => if r < n then some (.yld r) else none
  | .mref r => if r < n then some (.mref r) else none
  | v => if v.flat = true then some v else none

def hand1 (n : Nat) (objs : List Obj) : AV → Option AV
  | .agg cs => match mapO (hand0 n objs) cs with | some cs' => some (.agg cs') | none => none
  | .fn f a b =>
    match mapO (hand0 n objs) a with
    | some a' => match mapO (hand0 n objs) b with | some b' => some (.fn f a' b') | none => none
    | none => none
  | v => hand0 n objs v

def hand (n : Nat) (objs : List Obj) : AV → Option AV
  | .tup vs => match mapO (hand1 n objs) vs with | some vs' => some (.tup vs') | none => none
  | v => hand1 n objs v

def exFn (O : Orc) (F : AF) (args : List AV) (st : St) : Option (AV × St) :=
  if F.ntmps < args.length then none else
  match exC O false F.body (args ++ List.replicate (F.ntmps - args.length) .any) { objs := st.objs, ro := if F.pure then st.objs.length else st.ro, df := [] } with
  | some (.exit _, _, _) => none
  | some (_, fr, st') =>
    match resOf { st' with objs := killAll st'.df st'.objs } fr F.results with
    | some vs =>
      if F.pure then (match hand st.objs.length (killAll st'.df st'.objs) (tupOf vs) with | some v => some (v, st) | none => none)
      else some (tupOf vs, { objs := killAll st'.df st'.objs, ro := st.ro, df := st.df })
    | none => none
  | none => none

/-- the program's table of functions -/
abbrev Tab := Nat → Option AF

/-- the strings, or the numbers, of one-cell elements -/
def strsOf : List (List AV) → Option (List ByteArray)
  | [] => some []
  | [.str s] :: l => (match strsOf l with | some r => some (s :: r) | none => none)
  | _ => none

def intsOf : List (List AV) → Option (List Int)
  | [] => some []
  | [.int .i64 n] :: l => (match intsOf l with | some r => some (n :: r) | none => none)
  | _ => none

def ins {α : Type} (lt : α → α → Bool) (x : α) : List α → List α
  | [] => [x]
  | y :: l => bif lt y x then y :: ins lt x l else x :: y :: l

/-- sorted, by putting in one after another -/
def isort {α : Type} (lt : α → α → Bool) : List α → List α
  | [] => []
  | x :: l => ins lt x (isort lt l)

/-- of equal neighbours one -/
def dedup {α : Type} (eq : α → α → Bool) : List α → List α
  | [] => []
  | x :: l => (match dedup eq l with | [] => [x] | y :: r => bif eq x y then y :: r else x :: y :: r)

/-- the library's slices.Sort, on a whole owned array -/
def exSort {α : Type} (get : List (List AV) → Option (List α)) (mk : α → AV) (lt : α → α → Bool) (a : List AV) (st : St) : Option (AV × St) :=
  match a with
  | [.sl _ []] => some (.tup [], st)
  | [.fsl _ []] => some (.tup [], st)
  | [.own r lo n _] =>
    match st.arr? r with
    | some (ty, sz, es) =>
      if lo = 0 ∧ n = es.length ∧ sz = 1 ∧ st.ro ≤ r ∧ es.length < 4611686018427387904 then
        match get es with
        | some l => some (.tup [], st.set r (.arr ty 1 ((isort lt l).map fun x => [mk x])))
        | none => none
      else none
    | none => none
  | _ => none

/-- the library's slices.Compact, on a whole owned array -/
def exComp {α : Type} (get : List (List AV) → Option (List α)) (mk : α → AV) (z : α) (eq : α → α → Bool) (a : List AV) (st : St) : Option (AV × St) :=
  match a with
  | [.sl sz []] => some (.sl sz [], st)
  | [.fsl sz []] => some (.fsl sz [], st)
  | [.own r lo n false] =>
    match st.arr? r with
    | some (ty, sz, es) =>
      if lo = 0 ∧ n = es.length ∧ sz = 1 ∧ st.ro ≤ r ∧ es.length < 4611686018427387904 then
        match get es with
        | some l => some (.own r 0 (dedup eq l).length false, st.set r (.arr ty 1 ((dedup eq l ++ List.replicate (l.length - (dedup eq l).length) z).map fun x => [mk x])))
        | none => none
      else none
    | none => none
  | _ => none

/-- the library's slices.Clone -/
def exClone (ty sz bytes : Nat) (own : Bool) (a : List AV) (st : St) : Option (AV × St) :=
  match a with
  | [v] =>
    match elems st v with
    | some (_, []) => some (.sl sz [], st)
    | some (s, e :: es) =>
      if s = sz ∧ room (es.length + 1) bytes = true then
        bif own then some (.own st.objs.length 0 (es.length + 1) false, st.push (.arr ty sz (e :: es)))
        else if AV.flatLL (e :: es) = true then some (.sl sz (e :: es), st) else none
      else none
    | none => none
  | _ => none

/-- what functions outside the table give, by contract (by the seat) -/
def ext : Nat → List AV → St → Option (AV × St)
  | 41, a, st => exClone 3 1 8 false a st
  | 42, a, st => exClone 2 1 8 false a st
  | 44, a, st => exClone 62 2 16 false a st
  | 1000041, a, st => exClone 3 1 8 true a st
  | 1000044, a, st => exClone 62 2 16 true a st
  | 1000045, a, st => exClone 29 7 120 true a st
  | 51, a, st => exSort intsOf (.int .i64) (fun a b => decide (a < b)) a st
  | 52, a, st => exComp intsOf (.int .i64) 0 (fun a b => a == b) a st
  | _, _, _ => none

def orc (T : Tab) : Nat → Orc
  | 0 => { call := fun _ _ _ => none, yield := fun _ _ _ => none, loop := fun _ _ _ _ => none }
  | k + 1 =>
    { call := fun f args st => match T f with | some F => exFn (orc T k) F args st | none => ext f args st
      yield := fun r args st => exYield (orc T k) r args st
      loop := fun rd c fr st => match exC (orc T k) rd c fr st with
        | some (.norm, fr', st') => (orc T k).loop rd c fr' st'
        | r => r }

end Go.Proofs.Ytgabnhmjlhhojaa.A
