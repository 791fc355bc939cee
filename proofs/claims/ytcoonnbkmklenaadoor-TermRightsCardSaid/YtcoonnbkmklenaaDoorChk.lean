/- When code of the loaded program and code of the interpreter are the same: a check that the kernel runs. -/
import Derived.Test.YtcoonnbkmklenaaDoorAbs
import Derived.Laws.Sem
namespace Go.Proofs.YtcoonnbkmklenaaDoor.A
open Go

def atomB : AV → Value → Bool
  | .bool a, .bool b => a == b
  | .int k n, .int k' n' => decide (k = k') && decide (n = n')
  | .str s, .string s' => decide (s = s')
  | .nilf, .nilFunc => true
  | .nilp, .pointer none => true
  | .fsl _ [], .slice none 0 0 => true
  | .any, _ => true
  | _, _ => false

def atomsB : List AV → List Value → Bool
  | [], [] => true
  | x :: l, v :: m => atomB x v && v.oneCell' && atomsB l m
  | _, _ => false

def constB : AV → Value → Bool
  | .agg cs, .agg vs => atomsB cs vs.toList
  | x, v => atomB x v

def opdB : Opd → Operand → Bool
  | .t a, .tmp b => a == b
  | .c x, .const v => constB x v
  | .f a, .func b => a == b
  | .g a, .global b => a == b && (globs a).isSome
  | _, _ => false

def opdsB : List Opd → List Operand → Bool
  | [], [] => true
  | x :: l, y :: m => opdB x y && opdsB l m
  | _, _ => false

def opdO : Option Opd → Option Operand → Bool
  | none, none => true
  | some x, some y => opdB x y
  | _, _ => false

def sizeB (P : Program) (t sz : Nat) : Bool := (P.info? t).map (·.size) == some sz
def bytesB (P : Program) (t b : Nat) : Bool := (P.info? t).map (·.bytes) == some b

/-- the zero value of a type -/
def zeroB (P : Program) (t : Nat) (z : List AV) : Bool :=
  match P.info? t with
  | some i => match i.zero with
    | some v => atomsB z v.cells.toList && i.size == z.length
    | none => false
  | none => false

def isAggB (P : Program) (t : Nat) (agg : Bool) : Bool :=
  match P.underlying t with
  | some (.struct _) | some (.array _ _) => agg
  | some _ => !agg
  | none => false

def partsB (P : Program) (fs : Array Field) : List (Nat × Operand) → List (Nat × Nat × Opd) → Bool
  | [], [] => true
  | (i, x) :: l, (o, n, y) :: m =>
    (match fs[i]? with | some f => f.offset == o && sizeB P f.type n | none => false) && opdB y x && partsB P fs l m
  | _, _ => false

def partsSlB : List (Nat × Operand) → List (Nat × Opd) → Bool
  | [], [] => true
  | (i, x) :: l, (j, y) :: m => i == j && opdB y x && partsSlB l m
  | _, _ => false

def fieldsKnown (P : Program) (fs : Array Field) : Bool := fs.toList.all fun f => (P.info? f.type).isSome

def chkBuiltin (P : Program) (b : Builtin) (args : List Operand) (ts : List TypeId) : AO → Bool
  | .len b' => (match b, args, ts with
    | .len, [a], [t] => opdB b' a && (match P.underlying t with | some (.slice _) => true | _ => false)
    | _, _, _ => false)
  | .lenS b' => (match b, args, ts with
    | .len, [a], [t] => opdB b' a && (match P.underlying t with | some .string => true | _ => false)
    | _, _, _ => false)
  | .append ty sz bytes s' x' => (match b, args, ts with
    | .append, [s, x], [t, t'] => opdB s' s && opdB x' x && t == t' && (match P.underlying t with
      | some (.slice e) => e == ty && (match P.info? e with | some i => i.size == sz && i.bytes == bytes && decide (0 < sz) && (match i.zero with | some z => z.cells.size == sz | none => false) | none => false)
      | _ => false)
    | _, _, _ => false)
  | .max2 a' b' => (match b, args with | .max, [x, y] => opdB a' x && opdB b' y | _, _ => false)
  | .min2 a' b' => (match b, args with | .min, [x, y] => opdB a' x && opdB b' y | _, _ => false)
  | _ => false

def chkCall (P : Program) (c : Call) (x : AO) : Bool :=
  match c.callee with
  | .builtin b => chkBuiltin P b c.args.toList c.argTypes.toList x
  | .value f => (match x with
    | .call f' args' => (match f with | .func g => g == f' && opdsB args' c.args.toList | _ => false)
    | .callv f' args' => opdB f' f && opdsB args' c.args.toList
    | _ => false)
  | .invoke _ _ => false

def chkOp (P : Program) : Op → AO → Bool
  | .move a, .move b | .assign a, .move b => opdB b a
  | .pick c a b, .pick c' a' b' => opdB c' c && opdB a' a && opdB b' b
  | .alloc e, .alloc ty z => ty == e && zeroB P e z && decide (0 < z.length)
  | .box e v, .box ty v' => ty == e && opdB v' v
  | .build t ps, .build z ps' => zeroB P t z && (match P.underlying t with | some (.struct fs) => fieldsKnown P fs && partsB P fs ps.toList ps' | _ => false)
  | .buildSlice t len ps, .buildSl sz z n ps' =>
    match P.underlying t with
    | some (.slice e) => zeroB P e z && z.length == sz && decide (0 < sz) && sizeB P e sz && n == len && decide (len * sz ≤ 2 ^ 24) && partsSlB ps.toList ps'
    | _ => false
  | .load t a, .load agg sz b => opdB b a && sizeB P t sz && isAggB P t agg && decide (0 < sz) && (agg || sz == 1)
  | .store t a v, .store sz a' v' => opdB a' a && opdB v' v && sizeB P t sz && decide (0 < sz)
  | .nilCheck a, .nilck b => opdB b a
  | .binOp op _ a b _, .bin op' a' b' => decide (op = op') && opdB a' a && opdB b' b
  | .binOp op t a b _, .beq neg a' b' => (match op with | .eql => !neg | .neq => neg | _ => false) && opdB a' a && opdB b' b && (match P.underlying t with | some .bool => true | _ => false)
  | .unOp .not _ a, .not b => opdB b a
  | .unOp .neg _ a, .neg b => opdB b a
  | .convert s d a, .conv k b => opdB b a && (P.underlying s).isSome && (match P.underlying d with | some (.int k') => decide (k = k') | _ => false)
  | .convert s d a, .same b => opdB b a && (P.underlying s).isSome && (match P.underlying d with | some .string => true | _ => false)
  | .makeFunc f a c, .mkfn f' a' c' => decide (f = f') && opdsB a' a.toList && opdsB c' c.toList
  | .fieldAddr s a f, .fieldA off b => opdB b a && (match P.underlying s with | some (.struct fs) => (match fs[f]? with | some fd => fd.offset == off && (match P.info? fd.type with | some i => i.size != 0 | none => false) | none => false) | _ => false)
  | .field t a f, .field agg off sz b => opdB b a && (match P.underlying t with | some (.struct fs) => (match fs[f]? with | some fd => fd.offset == off && sizeB P fd.type sz && isAggB P fd.type agg && (agg || sz == 1) | none => false) | _ => false)
  | .indexAddr t a i, .idxA sz a' i' => opdB a' a && opdB i' i && (match P.underlying t with | some (.slice e) => sizeB P e sz && decide (0 < sz) | _ => false)
  | .indexAddr t a i, .idxArrA n sz a' i' => opdB a' a && opdB i' i && (match P.underlying t with | some (.array m e) => m == n && sizeB P e sz && decide (0 < sz) | _ => false)
  | .index t a i, .idxS a' i' => opdB a' a && opdB i' i && (match P.underlying t with | some .string => true | _ => false)
  | .slice t a lo hi mx, .slice sz a' lo' hi' mx' => opdB a' a && opdO lo' lo && opdO hi' hi && opdO mx' mx && (mx.isNone || hi.isSome) && (match P.underlying t with | some (.slice e) => sizeB P e sz && decide (0 < sz) | _ => false)
  | .slice t a lo hi none, .sliceS a' lo' hi' => opdB a' a && opdO lo' lo && opdO hi' hi && (match P.underlying t with | some .string => true | _ => false)
  | .extract a i, .extract b j => opdB b a && i == j
  | .call c, .len b => chkCall P c (.len b)
  | .call c, .lenS b => chkCall P c (.lenS b)
  | .call c, .append ty sz bytes s' x' => chkCall P c (.append ty sz bytes s' x')
  | .call c, .max2 a' b' => chkCall P c (.max2 a' b')
  | .call c, .min2 a' b' => chkCall P c (.min2 a' b')
  | .call c, .call f' args' => chkCall P c (.call f' args')
  | .call c, .callv f' args' => chkCall P c (.callv f' args')
  | _, _ => false

def chkOper (P : Program) (ops : Array Oper) (o : Oper) (x : AOp) : Bool :=
  o.dst == x.dst && chkOp P o.op x.op &&
  (match o.guard, x.guard with
    | none, none => true
    | some (j, w), some (s, w') => w == w' && (ops[j]?).bind (·.dst) == some s
    | _, _ => false)

def chkOpers (P : Program) (ops : Array Oper) : List Oper → List AOp → Bool
  | [], [] => true
  | o :: l, x :: m => chkOper P ops o x && chkOpers P ops l m
  | _, _ => false

/-! The statements whose order is open. -/

inductive Cls where
  | pur   -- slots alone
  | shp   -- asks how long an array is
  | rd    -- looks into the store
  | new   -- makes an object
  | wr    -- writes one place
  | run   -- a call that leaves the store alone
  | oth
  deriving DecidableEq

def cls (T : Tab) : AO → Cls
  | .load .. => .rd
  | .alloc .. | .box .. => .new
  | .store .. => .wr
  | .append .. => .oth
  | .idxA .. => .shp
  | .slice .. => .shp
  | .call f _ => (match T f with | some F => if F.pure then .run else .oth | none => .oth)
  | .callv .. => .oth
  | _ => .pur

def clsOk : Cls → Cls → Bool
  | .pur, _ | _, .pur => true
  | .rd, .rd | .rd, .shp | .shp, .rd | .shp, .shp | .run, .run | .run, .rd | .rd, .run | .run, .shp | .shp, .run => true
  | .wr, .wr | .shp, .wr | .wr, .shp => true
  | _, _ => false

def opSlots : Opd → List Nat
  | .t n => [n]
  | _ => []
def opsSlots (l : List Opd) : List Nat := l.flatMap opSlots
def opoSlots : Option Opd → List Nat
  | some x => opSlots x
  | none => []

def reads : AO → List Nat
  | .move x | .box _ x | .nilck x | .not x | .neg x | .conv _ x | .same x | .fieldA _ x | .field _ _ _ x | .extract x _ | .len x | .lenS x | .load _ _ x => opSlots x
  | .pick a b c => opSlots a ++ opSlots b ++ opSlots c
  | .alloc .. => []
  | .build _ ps => ps.flatMap fun p => opSlots p.2.2
  | .buildSl _ _ _ ps => ps.flatMap fun p => opSlots p.2
  | .store _ a v => opSlots a ++ opSlots v
  | .bin _ a b | .beq _ a b | .idxA _ a b | .idxArrA _ _ a b | .idxS a b | .append _ _ _ a b | .max2 a b | .min2 a b => opSlots a ++ opSlots b
  | .mkfn _ a b => opsSlots a ++ opsSlots b
  | .slice _ x a b c => opSlots x ++ opoSlots a ++ opoSlots b ++ opoSlots c
  | .sliceS x a b => opSlots x ++ opoSlots a ++ opoSlots b
  | .call _ l => opsSlots l
  | .callv f l => opSlots f ++ opsSlots l

def AOp.slots (o : AOp) : List Nat := reads o.op ++ (match o.guard with | some (j, _) => [j] | none => [])

def slotsApart (x y : AOp) : Bool :=
  (match x.dst with | some d => !y.slots.contains d && y.dst != some d | none => true) &&
  (match y.dst with | some d => !x.slots.contains d | none => true)

def free2 (T : Tab) (x y : AOp) : Bool := slotsApart x y && clsOk (cls T x.op) (cls T y.op)

/-- each two operations either wait for one another or may change places -/
def drawFrom (T : Tab) (l : List AOp) (b : Array Nat) : Nat → List AOp → Bool
  | _, [] => true
  | j, y :: m => (List.range j).all (fun i => (b.getD j 0).testBit i || (match l[i]? with | some x => free2 T x y | none => false)) && drawFrom T l b (j + 1) m

def edgesB (ops : Array Oper) : Bool := (List.range ops.size).all fun j => match ops[j]? with | some o => o.after.toList.all fun e => !Region.binds .any e || decide (e.on < j) | none => false

def drawB (T : Tab) (ops : Array Oper) (l : List AOp) : Bool := edgesB ops && drawFrom T l (Region.before ops) 0 l

def chkC (P : Program) (T : Tab) : Code → AC → Bool
  | .skip, .skip => true
  | .region _ ops draw, .ops l d => d == draw && chkOpers P ops ops.toList l && (!draw || drawB T ops l)
  | .seq a b, .seq a' b' => chkC P T a a' && chkC P T b b'
  | .cond c a b, .cond c' a' b' => opdB c' c && chkC P T a a' && chkC P T b b'
  | .block id c, .block id' c' => id == id' && chkC P T c c'
  | .loop c, .loop c' => chkC P T c c'
  | .rangeFunc f ps a b, .range f' ps' a' b' => opdB f' f && ps.toList == ps' && chkC P T a a' && chkC P T b b'
  | .exit id, .exit id' => id == id'
  | .ret, .ret => true
  | _, _ => false

def chkRes (P : Program) : List ResultVar → List ARes → Bool
  | [], [] => true
  | .tmp t :: l, .tmp t' :: m => t == t' && chkRes P l m
  | .cell a t :: l, .cell a' agg sz :: m => a == a' && sizeB P t sz && isAggB P t agg && decide (0 < sz) && (agg || sz == 1) && chkRes P l m
  | _, _ => false

def chkF (P : Program) (T : Tab) (fn : Func) (F : AF) : Bool :=
  fn.ntmps == F.ntmps && chkRes P fn.results.toList F.results && fn.name != "runtime.NumGoroutine" &&
  (match fn.body with | some c => chkC P T c F.body | none => false)

/-- the function numbered f is the table's -/
def chkAt (P : Program) (T : Tab) (f : Nat) : Bool :=
  match P.funcs[f]?, T f with
  | some fn, some F => chkF P T fn F
  | _, none => true
  | none, some _ => false

end Go.Proofs.YtcoonnbkmklenaaDoor.A
