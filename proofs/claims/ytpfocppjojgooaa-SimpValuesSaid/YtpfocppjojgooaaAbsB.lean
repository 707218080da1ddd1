/-
  The abstract operations and codes, what they do, and the check that an abstract code is a translation of the model's code. Program-independent.
-/
import Derived.Test.YtpfocppjojgooaaAbsA
namespace Go.Abs

/-- an operand: a slot or a constant -/
inductive AO where
  | s (n : Nat)
  | k (x : TV)
  deriving Inhabited

/-- the kinds of keys -/
inductive KT where
  | b
  | i (k : IntKind)
  | s
  deriving DecidableEq, Inhabited

inductive AX where
  | mov (x : AO)
  | pick (c a b : AO)
  | ldb (s col n : Nat) (agg : Bool)
  | ld (x : AO) (n : Nat) (agg : Bool)
  | fad (x : AO) (off : Nat)
  | iad (x i : AO) (wd : Nat)
  | bin (op : BinOp) (x y : AO)
  | beq (ng : Bool) (x y : AO)
  | nleq (kind : Nat) (ng : Bool) (x : AO)
  | seq (kinds : List Nat) (ng : Bool) (x y : AO)
  | un (op : UnOp) (x : AO)
  | len (str : Bool) (x : AO)
  | mn (x y : AO)
  | mx (x y : AO)
  | fld (x : AO) (off n : Nat) (agg : Bool)
  | bld (zero : List TV) (parts : List (Nat × Nat × AO))
  | six (x i : AO)
  | ssl (str : Bool) (x : AO) (lo hi : Option AO) (wd : Nat)
  | cnv (k : IntKind) (x : AO)
  | cvs (x : AO)
  | mkf (f : FuncId) (caps : List AO)
  | mki (t : TypeId) (x : AO)
  deriving Inhabited

inductive AOp where
  | set (d : Nat) (x : AX)
  | fp (d s col : Nat)
  | als (d s : Nat)
  | alb (d s col : Nat)
  | bxn (d : Nat) (zero : List TV)
  | bxv (d : Nat) (x : AO)
  | stb (s col n : Nat) (x : AO)
  | bsl (d wd : Nat) (xs : List AO)
  | app (d s : Nat) (col : Option Nat) (x : AO) (wd bytes : Nat) (fz : Bool)
  | apk (d : Nat) (x : AO) (wd bytes : Nat) (fz : Bool)
  | mvs (d s : Nat)
  | mvb (s col d : Nat)
  | ext (d s i : Nat)
  | bsx (d wd : Nat) (fz : Bool)
  | lkp (d : Nat) (m k : AO) (kt : KT) (zero : List TV) (agg ok : Bool)
  | hpn (d : Nat) (zero : List TV)
  | hpv (d : Nat) (x : AO)
  | stp (a : AO) (n : Nat) (x : AO)
  | mks (d : Nat) (n : AO) (wd bytes : Nat) (zero : List TV)
  | mkm (d : Nat)
  | mst (m k v : AO) (kt : KT)
  | mdl (m k : AO) (kt : KT)
  | rng (d : Nat) (m : AO)
  | nxt (d : Nat) (it : AO)
  | ent (d : Nat) (it : AO)
  | clr (x : AO) (wd : Nat) (zero : List TV)
  | pc (d : Nat) (f : FuncId) (args : List AO) (m : Nat)
  | cc (d : Nat) (x : AO) (args : List AO) (m : Nat)
  | tc (d : Nat) (f : FuncId) (args : List AO) (gn : Option (Nat × Nat)) (m : Nat)
  | ct (d : Nat) (x : AO) (args : List AO) (m : Nat)
  deriving Inhabited

structure GOp where
  g : Option (Nat × Bool)
  op : AOp
  deriving Inhabited

inductive ACode where
  | skip
  | reg (ops : List GOp)
  | drw (ops : List GOp)
  | seq (a b : ACode)
  | cond (c : AO) (a b : ACode)
  | block (id : Nat) (a : ACode)
  | loop (mask : List Bool) (a : ACode)
  | exit (id : Nat)
  | ret
  | bad
  deriving Inhabited

inductive AR where
  | s (n : Nat)
  | c (n k : Nat) (agg : Bool)
  deriving Inhabited

structure AF where
  nt : Nat
  res : List AR
  body : ACode
  deriving Inhabited

/- values -/
def EV.ofT : TV → EV
  | .ag cs => .ag (cs.map .t)
  | x => .c (.t x)
def SV.ofT : TV → SV
  | .tu vs => .tu (vs.map EV.ofT)
  | x => .e (EV.ofT x)
def und : SV := .e (.c .und)

def rdC : AC → AC
  | .os _ rows => .t (.ts rows)
  | .ex _ _ => .und
  | x => x
def rdE : EV → EV
  | .c x => .c (rdC x)
  | .ag xs => .ag (xs.map rdC)

def evO (st : St) : AO → Option EV
  | .k x => some (EV.ofT x)
  | .s n => match st.sl[n]? with
    | some (.e x) => some (rdE x)
    | _ => none

def tC : AC → Option TV
  | .t x => some x
  | _ => none
def tCs : List AC → Option (List TV)
  | [] => some []
  | x :: xs => match tC x, tCs xs with
    | some a, some as => some (a :: as)
    | _, _ => none
def tE : EV → Option TV
  | .c x => tC x
  | .ag xs => (tCs xs).map .ag
def evT (st : St) (x : AO) : Option TV := (evO st x).bind tE
def evTs (st : St) : List AO → Option (List TV)
  | [] => some []
  | x :: xs => match evT st x, evTs st xs with
    | some a, some as => some (a :: as)
    | _, _ => none
def evOs (st : St) : List AO → Option (List EV)
  | [] => some []
  | x :: xs => match evO st x, evOs st xs with
    | some a, some as => some (a :: as)
    | _, _ => none
/-- an operand as it is, for one who takes it over -/
def evR (st : St) : AO → Option EV
  | .k x => some (EV.ofT x)
  | .s n => match st.sl[n]? with
    | some (.e x) => some x
    | _ => none
/-- operands, the one at the place of gn taken over -/
def evGs (st : St) (gn : Option (Nat × Nat)) : Nat → List AO → Option (List EV)
  | _, [] => some []
  | k, x :: xs => match (if gn.map (·.1) = some k then evR st x else evO st x), evGs st gn (k + 1) xs with
    | some a, some as => some (a :: as)
    | _, _ => none
def aC : EV → Option AC
  | .c x => some x
  | .ag xs => (tCs xs).map fun l => .t (.ag l)
def aCs : List EV → Option (List AC)
  | [] => some []
  | x :: xs => match aC x, aCs xs with
    | some a, some as => some (a :: as)
    | _, _ => none
def cellsE : EV → List AC
  | .c x => [x]
  | .ag xs => xs
def isAgE : EV → Bool
  | .c _ => false
  | .ag _ => true
/-- a tree that lies in one cell -/
def TV.one : TV → Bool
  | .ag _ | .tu _ => false
  | _ => true
def AC.one : AC → Bool
  | .t x => x.one
  | .und => false
  | _ => true
/-- the cells of a value that is stored: each lies in one cell -/
def stored (x : EV) : Option (List AC) :=
  match x with
  | .c x => if x.one then some [x] else none
  | .ag xs => some xs
def TV.cells : TV → List TV
  | .ag cs => cs
  | x => [x]
/-- a row of a slice made of trees -/
def rowOf (x : TV) : Option (List TV) :=
  match x with
  | .ag cs => some cs
  | x => if x.one then some [x] else none

def byteLess : List UInt8 → List UInt8 → Bool
  | _, [] => false
  | [], _ :: _ => true
  | a :: x, b :: y => a < b || (a == b && byteLess x y)

def bin2 (op : BinOp) : TV → TV → Option TV
  | .i k a, .i k' b => if k = k' then
      match op with
      | .add => some (.i k (k.wrap (a + b)))
      | .sub => some (.i k (k.wrap (a - b)))
      | .mul => some (.i k (k.wrap (a * b)))
      | .quo => if b = 0 then none else some (.i k (k.wrap (a.tdiv b)))
      | .rem => if b = 0 then none else some (.i k (a.tmod b))
      | .and => some (.i k (k.wrap (BitVec.ofInt k.bits a &&& BitVec.ofInt k.bits b).toNat))
      | .or => some (.i k (k.wrap (BitVec.ofInt k.bits a ||| BitVec.ofInt k.bits b).toNat))
      | .xor => some (.i k (k.wrap (BitVec.ofInt k.bits a ^^^ BitVec.ofInt k.bits b).toNat))
      | .eql => some (.b (a == b))
      | .neq => some (.b (a != b))
      | .lss => some (.b (a < b))
      | .leq => some (.b (a ≤ b))
      | .gtr => some (.b (a > b))
      | .geq => some (.b (a ≥ b))
      | _ => none
    else none
  | .s a, .s b =>
    match op with
    | .add => if a.length + b.length ≤ 1073741824 then some (.s (a ++ b)) else none
    | .eql => some (.b (a == b))
    | .neq => some (.b (a != b))
    | .lss => some (.b (byteLess a b))
    | .leq => some (.b (byteLess a b || a == b))
    | .gtr => some (.b (!(byteLess a b || a == b)))
    | .geq => some (.b (!byteLess a b))
    | _ => none
  | _, _ => none

/-- the equality of two basic values (0: bool, 1: integer, 2: string), of structs of such -/
def sq1 : Nat → TV → TV → Option Bool
  | 0, .b a, .b b => some (a == b)
  | 1, .i k a, .i k' b => if k = k' then some (a == b) else none
  | 2, .s a, .s b => some (a == b)
  | _, _, _ => none
def sqs : List Nat → List TV → List TV → Option Bool
  | [], [], [] => some true
  | k :: ks, x :: xs, y :: ys => match sq1 k x y with
    | some true => sqs ks xs ys
    | some false => some false
    | none => none
  | _, _, _ => none

/-- is it nil? (0: a slice, 1: a pointer, 2: a map, 3: a function, 4: an interface) -/
def isNil : Nat → AC → Option Bool
  | 0, .t .ns | 1, .t .nl | 2, .t .nm | 3, .t .nf | 4, .t .ni => some true
  | 0, .t (.ts (_ :: _)) | 0, .sl _ _ _ _ | 1, .tp _ _ | 1, .p _ _ _ _ | 2, .m _ | 3, .t (.fn _ _) | 3, .fn _ _ | 4, .t (.ifc _ _) | 4, .ifc _ _ => some false
  | _, _ => none

def putAt (cs : List AC) (off : Nat) : List AC → List AC
  | [] => cs
  | x :: xs => putAt (cs.set off x) (off + 1) xs

def bldE (st : St) (cs : List AC) : List (Nat × Nat × AO) → Option (List AC)
  | [] => some cs
  | (off, size, x) :: r => match (evO st x).bind stored with
    | some l => if l.length = size ∧ off + l.length ≤ cs.length then bldE st (putAt cs off l) r else none
    | none => none

def evI (st : St) (x : AO) : Option Int :=
  match evO st x with
  | some (.c (.t (.i _ n))) => some n
  | _ => none
def evIo (st : St) (d : Nat) : Option AO → Option Int
  | none => some d
  | some x => evI st x

def pack (agg : Bool) (l : List AC) : Option EV :=
  if agg then some (.ag l) else match l with
  | [x] => some (.c x)
  | _ => none

def evX (st : St) : AX → Option EV
  | .mov x => evO st x
  | .pick c a b => match evO st c, evO st a, evO st b with
    | some (.c (.t (.b x))), some a, some b => some (if x then a else b)
    | _, _, _ => none
  | .ldb s col n agg => match st.sl[s]? with
    | some (.bx cs) => if col + n ≤ cs.length then pack agg (((cs.drop col).take n).map rdC) else none
    | _ => none
  | .ld x n agg => match evO st x with
    | some (.c (.tp row col)) => if col + n ≤ row.length then pack agg (((row.drop col).take n).map .t) else none
    | some (.c (.p blk wd r col)) => match st.h[blk]? with
      | some (.rows wd' rs) => match rs[r]? with
        | some row => if wd = wd' ∧ col + n ≤ row.length then pack agg (((row.drop col).take n).map rdC) else none
        | none => none
      | _ => none
    | _ => none
  | .fad x off => match evO st x with
    | some (.c (.tp row col)) => some (.c (.tp row (col + off)))
    | some (.c (.p blk wd r col)) => some (.c (.p blk wd r (col + off)))
    | _ => none
  | .iad x i wd => match evO st x, evI st i with
    | some (.c (.t (.ts rows))), some n => if 0 ≤ n then match rows[n.toNat]? with
        | some row => if row.length = wd then some (.c (.tp row 0)) else none
        | none => none
      else none
    | some (.c (.sl blk wd' r len)), some n => if 0 ≤ n ∧ n < len ∧ wd = wd' then some (.c (.p blk wd (r + n.toNat) 0)) else none
    | _, _ => none
  | .bin op x y => match evO st x, evO st y with
    | some (.c (.t a)), some (.c (.t b)) => (bin2 op a b).map fun r => .c (.t r)
    | _, _ => none
  | .beq ng x y => match evO st x, evO st y with
    | some (.c (.t (.b a))), some (.c (.t (.b b))) => some (.c (.t (.b (if ng then !(a == b) else a == b))))
    | _, _ => none
  | .nleq kind ng x => match evO st x with
    | some (.c a) => (isNil kind a).map fun r => .c (.t (.b (if ng then !r else r)))
    | _ => none
  | .seq kinds ng x y => match evT st x, evT st y with
    | some (.ag a), some (.ag b) => (sqs kinds a b).map fun r => .c (.t (.b (if ng then !r else r)))
    | _, _ => none
  | .un op x => match op, evO st x with
    | .not, some (.c (.t (.b a))) => some (.c (.t (.b (!a))))
    | .neg, some (.c (.t (.i k n))) => some (.c (.t (.i k (k.wrap (0 - n)))))
    | _, _ => none
  | .len str x => match str, evO st x with
    | true, some (.c (.t (.s a))) => some (.c (.t (.i .i64 a.length)))
    | false, some (.c (.t (.ts rows))) => some (.c (.t (.i .i64 rows.length)))
    | false, some (.c (.t .ns)) => some (.c (.t (.i .i64 0)))
    | false, some (.c (.sl _ _ _ n)) => some (.c (.t (.i .i64 n)))
    | _, _ => none
  | .mn x y => match evO st x, evO st y with
    | some (.c (.t (.i k a))), some (.c (.t (.i k' b))) => if k = k' then some (.c (.t (.i k (if b < a then b else a)))) else none
    | _, _ => none
  | .mx x y => match evO st x, evO st y with
    | some (.c (.t (.i k a))), some (.c (.t (.i k' b))) => if k = k' then some (.c (.t (.i k (if b > a then b else a)))) else none
    | _, _ => none
  | .fld x off n agg => match evO st x with
    | some (.ag cs) => if off + n ≤ cs.length then pack agg ((cs.drop off).take n) else none
    | _ => none
  | .bld zero parts => (bldE st (zero.map .t) parts).map .ag
  | .six x i => match evO st x, evI st i with
    | some (.c (.t (.s a))), some n => if 0 ≤ n then (a[n.toNat]?).map fun b => .c (.t (.i .u8 b.toNat)) else none
    | _, _ => none
  | .ssl str x lo hi wd => match str, evO st x with
    | true, some (.c (.t (.s a))) => match evIo st 0 lo, evIo st a.length hi with
      | some l, some h => if 0 ≤ l ∧ l ≤ h ∧ h ≤ a.length then some (.c (.t (.s ((a.drop l.toNat).take (h.toNat - l.toNat))))) else none
      | _, _ => none
    | false, some (.c (.t (.ts rows))) => match evIo st 0 lo, evIo st rows.length hi with
      | some l, some h => if 0 ≤ l ∧ l ≤ h ∧ h ≤ rows.length ∧ (rows.all fun r => r.length == wd) then some (.c (.t (.ts ((rows.drop l.toNat).take (h.toNat - l.toNat))))) else none
      | _, _ => none
    | false, some (.c (.sl blk wd' r len)) => match evIo st 0 lo, evIo st len hi with
      | some l, some h => if 0 ≤ l ∧ l ≤ h ∧ h ≤ len ∧ wd = wd' then some (.c (.sl blk wd (r + l.toNat) (h.toNat - l.toNat))) else none
      | _, _ => none
    | _, _ => none
  | .cnv k x => match evO st x with
    | some (.c (.t (.i _ n))) => some (.c (.t (.i k (k.wrap n))))
    | _ => none
  | .cvs x => match evO st x with
    | some (.c (.t (.s a))) => some (.c (.t (.s a)))
    | _ => none
  | .mkf f caps => match evTs st caps with
    | some l => some (.c (.t (.fn f l)))
    | none => match (evOs st caps).bind aCs with
      | some l => some (.c (.fn f l))
      | none => none
  | .mki t x => match evT st x with
    | some a => some (.c (.t (.ifc t a)))
    | none => match evO st x with
      | some (.c a) => some (.c (.ifc t a))
      | _ => none

def St.put (st : St) (d : Nat) (v : SV) : St := { st with sl := st.sl.set d v }

def KT.is : KT → TV → Bool
  | .b, .b _ => true
  | .i k, .i k' _ => k == k'
  | .s, .s _ => true
  | _, _ => false
def keyEq : TV → TV → Bool
  | .b a, .b b => a == b
  | .i k a, .i k' b => k == k' && a == b
  | .s a, .s b => a == b
  | _, _ => false
def midx (k : TV) : List (TV × EV) → Nat → Option Nat
  | [], _ => none
  | (a, _) :: r, n => if keyEq k a then some n else midx k r (n + 1)
def mget (k : TV) (es : List (TV × EV)) : Option EV := (midx k es 0).bind fun n => (es[n]?).map (·.2)
def mput (k : TV) (v : EV) (es : List (TV × EV)) : List (TV × EV) :=
  match midx k es 0 with
  | some n => es.set n (k, v)
  | none => es ++ [(k, v)]
def keysOk (kt : KT) (k : TV) (es : List (TV × EV)) : Bool := kt.is k && es.all fun e => kt.is e.1
/-- no iterator over a block that changes -/
def noIt (blk : Nat) (h : List HB) : List HB := h.map fun b => match b with
  | .iter mp l c => if mp = blk then .gone else .iter mp l c
  | b => b

def rowsOf (wd : Nat) : List TV → Option (List (List TV))
  | [] => some []
  | x :: xs => match rowOf x, rowsOf wd xs with
    | some r, some rs => if r.length = wd then some (r :: rs) else none
    | _, _ => none

/-- is there room for so many elements? -/
def room (k bytes : Nat) : Bool := decide ((2 * k + 256) * (bytes + 1) ≤ 281474976710656)

def ownC (frz : Bool) (wd : Nat) (rows : List (List TV)) : AC := if frz then .os wd rows else .ex wd rows
/-- the owned slice that an append makes -/
def appd (fz : Bool) (wd bytes : Nat) (base : AC) (x : EV) : Option AC :=
  match x with
  | .c (.t .ns) => match base with
    | .t .ns => some (.t .ns)
    | .os w r => if w = wd then some (.os w r) else none
    | .ex w r => if w = wd then some (.ex w r) else none
    | _ => none
  | .c (.t (.ts rs)) =>
    if (rs.all fun r => r.length == wd) then
      match base with
      | .t .ns => if rs.isEmpty then some (.t .ns) else if room rs.length bytes then some (ownC fz wd rs) else none
      | .os w r => if w = wd ∧ room (r.length + rs.length) bytes then some (.os w (r ++ rs)) else none
      | .ex w r => if w = wd ∧ room (r.length + rs.length) bytes then some (.ex w (r ++ rs)) else none
      | _ => none
    else none
  | _ => none

/-- the deterministic operations that call nothing -/
def exop (st : St) : AOp → Option St
  | .set d x => (evX st x).map fun v => st.put d (.e v)
  | .fp d s _ => match st.sl[s]? with
    | some (.bx _) => if d < st.sl.length then some (st.put d und) else none
    | _ => none
  | .als d s => if d < st.sl.length ∧ s < st.sl.length then some (st.put d und) else none
  | .alb d s col => match st.sl[s]? with
    | some (.bx cs) => if col < cs.length ∧ d < st.sl.length then some (st.put d und) else none
    | _ => none
  | .bxn d zero => some (st.put d (.bx (zero.map .t)))
  | .bxv d x => match (evO st x).bind stored with
    | some l => some (st.put d (.bx l))
    | none => none
  | .stb s col n x => match st.sl[s]?, (evO st x).bind stored with
    | some (.bx cs), some l => if l.length = n ∧ col + n ≤ cs.length then some (st.put s (.bx (putAt cs col l))) else none
    | _, _ => none
  | .bsl d wd xs => match (evTs st xs).bind (rowsOf wd) with
    | some rs => some (st.put d (.e (.c (.t (.ts rs)))))
    | none => none
  | .app d s none x wd bytes fz => match st.sl[s]?, evO st x with
    | some (.e (.c b)), some v => (appd fz wd bytes b v).map fun r => (st.put s und).put d (.e (.c r))
    | _, _ => none
  | .app d s (some col) x wd bytes fz => match st.sl[s]?, evO st x with
    | some (.bx cs), some v => match cs[col]? with
      | some b => (appd fz wd bytes b v).map fun r => (st.put s (.bx (cs.set col .und))).put d (.e (.c r))
      | none => none
    | _, _ => none
  | .apk d x wd bytes fz => match evO st x with
    | some v => (appd fz wd bytes (.t .ns) v).map fun r => st.put d (.e (.c r))
    | none => none
  | .mvs d s => match st.sl[s]? with
    | some x => some ((st.put s und).put d x)
    | none => none
  | .mvb s col d => match st.sl[s]?, st.sl[d]? with
    | some (.bx cs), some (.e (.c x)) => if x.one ∧ col < cs.length ∧ s ≠ d then some ((st.put d und).put s (.bx (cs.set col x))) else none
    | _, _ => none
  | .ext d s i => match st.sl[s]? with
    | some (.tu xs) => match xs[i]? with
      | some x => some ((st.put s (.tu (xs.set i (.c .und)))).put d (.e x))
      | none => none
    | _ => none
  | .bsx d wd fz => some (st.put d (.e (.c (ownC fz wd []))))
  | .lkp d m k kt zero agg ok => match evO st m, evT st k, pack agg (zero.map .t) with
    | some (.c (.m blk)), some key, some z => match st.h[blk]? with
      | some (.map es) => if keysOk kt key es = true then
          some (st.put d (match mget key es with
            | some v => if ok then .tu [rdE v, .c (.t (.b true))] else .e (rdE v)
            | none => if ok then .tu [z, .c (.t (.b false))] else .e z))
        else none
      | _ => none
    | some (.c (.t .nm)), some key, some z => if kt.is key = true then some (st.put d (if ok then .tu [z, .c (.t (.b false))] else .e z)) else none
    | _, _, _ => none
  | .hpn d zero => some { sl := st.sl.set d (.e (.c (.p st.h.length zero.length 0 0))), h := st.h ++ [.rows zero.length [zero.map .t]] }
  | .hpv d x => match (evO st x).bind stored with
    | some l => some { sl := st.sl.set d (.e (.c (.p st.h.length l.length 0 0))), h := st.h ++ [.rows l.length [l]] }
    | none => none
  | .stp a n x => match evO st a, (evO st x).bind stored with
    | some (.c (.p blk wd r col)), some l => match st.h[blk]? with
      | some (.rows wd' rs) => match rs[r]? with
        | some row => if wd = wd' ∧ l.length = n ∧ col + n ≤ row.length then some { st with h := st.h.set blk (.rows wd (rs.set r (putAt row col l))) } else none
        | none => none
      | _ => none
    | _, _ => none
  | .mks d n wd bytes zero => match evI st n with
    | some k => if 0 ≤ k ∧ bytes * k ≤ 281474976710656 ∧ zero.length = wd ∧ k ≤ 1073741824 then
        some { sl := st.sl.set d (.e (.c (.sl st.h.length wd 0 k.toNat))), h := st.h ++ [.rows wd (List.replicate k.toNat (zero.map .t))] }
      else none
    | none => none
  | .mkm d => some { sl := st.sl.set d (.e (.c (.m st.h.length))), h := st.h ++ [.map []] }
  | .mst m k v kt => match evO st m, evT st k, evO st v with
    | some (.c (.m blk)), some key, some x => match st.h[blk]? with
      | some (.map es) => if keysOk kt key es = true then some { st with h := (noIt blk st.h).set blk (.map (mput key x es)) } else none
      | _ => none
    | _, _, _ => none
  | .rng d m => match evO st m with
    | some (.c (.m blk)) => match st.h[blk]? with
      | some (.map es) => some { sl := st.sl.set d (.e (.c (.it st.h.length))), h := st.h ++ [.iter blk (List.range es.length) none] }
      | _ => none
    | _ => none
  | .ent d it => match evO st it with
    | some (.c (.it i)) => match st.h[i]? with
      | some (.iter mp _ (some k)) => match st.h[mp]? with
        | some (.map es) => match es[k]? with
          | some (key, v) => some (st.put d (.tu [EV.ofT key, rdE v]))
          | none => none
        | _ => none
      | _ => none
    | _ => none
  | .clr x wd zero => match evO st x with
    | some (.c (.sl blk wd' r len)) => match st.h[blk]? with
      | some (.rows w2 rs) => if wd = wd' ∧ wd = w2 ∧ zero.length = wd ∧ r + len ≤ rs.length then
          some { st with h := st.h.set blk (.rows wd (rs.take r ++ List.replicate len (zero.map .t) ++ rs.drop (r + len))) }
        else none
      | _ => none
    | _ => none
  | _ => none

/-- a step of an iterator: what it may leave -/
def nxts (st : St) (d : Nat) (it : AO) : Option (List St) :=
  match evO st it with
  | some (.c (.it i)) => match st.h[i]? with
    | some (.iter mp left _) => match left with
      | [] => some [st.put d (.tu [.c (.t (.b false))])]
      | left => some ((List.range left.length).map fun j => { sl := st.sl.set d (.tu [.c (.t (.b true)), .c .und, .c .und]), h := st.h.set i (.iter mp (left.eraseIdx j) (left[j]?)) })
    | _ => none
  | _ => none

end Go.Abs
