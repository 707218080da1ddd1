/-
  What the abstract operations do. Program-independent.
-/
import Derived.Test.YtagogibgoknncaaGreatDoorBA
set_option linter.unusedSectionVars false
set_option linter.unusedVariables false
namespace Go.B
def upd {α : Type} (f : Nat → α) (n : Nat) (x : α) : Nat → α := fun m => if m = n then x else f m
theorem j5 {α : Type} (f : Nat → α) (n : Nat) (x : α) : upd f n x n = x := if_pos rfl
theorem j4 {α : Type} (f : Nat → α) {n m : Nat} (x : α) (h : m ≠ n) : upd f n x m = f m := if_neg h
theorem p5 {α : Type} (f : Nat → α) {n m : Nat} (x y : α) (h : n ≠ m) : upd (upd f n x) m y = upd (upd f m y) n x := by
 funext k
 simp only [upd]
 by_cases h1 : k = m
 ·subst h1; rw [if_pos rfl, if_neg (Ne.symm h), if_pos rfl]
 ·by_cases h2 : k = n
  ·subst h2; rw [if_neg h1, if_pos rfl, if_pos rfl]
  ·rw [if_neg h1, if_neg h2, if_neg h2, if_neg h1]
def evO (sl : Nat → V) : AO → V
 | .k x => x
 | .s n => sl n
def ae5 (sl : Nat → V) (l : List AO) : List V := l.map (evO sl)
def V.one : V → Bool
 | .ag _ | .tu _ | .und => false
 | _ => true
def stored : V → Option (List V)
 | .ag cs => some cs
 | .tu _ | .und => none
 | x => some [x]
def aq5 (op : BinO) : V → V → Option V
 | .i k a, .i k' b => if k = k' then
    match op with
    | .add => some (.i k (k.wrap (a + b)))
    | .sub => some (.i k (k.wrap (a - b)))
    | .mul => some (.i k (k.wrap (a * b)))
    | .quo => if b = 0 then none else some (.i k (k.wrap (a.tdiv b)))
    | .rem => if b = 0 then none else some (.i k (a.tmod b))
    | .and => some (.i k (k.wrap (BitVec.ofInt k.bits a &&& BitVec.ofInt k.bits b).toNat))
    | .or => some (.i k (k.wrap (BitVec.ofInt k.bits a ||| BitVec.ofInt k.bits b).toNat))
    | .xor => some (.i k (k.wrap (BitVec.ofInt k.bits a ^^^ BitVec.ofInt k.bits b).toNat))
    | .eql => some (.b (a == b))
    | .neq => some (.b (a != b))
    | .lss => some (.b (a < b))
    | .leq => some (.b (a ≤ b))
    | .gtr => some (.b (a > b))
    | .geq => some (.b (a ≥ b))
   else none
 | .s la a, .s lb b =>
   match op with
   | .add => if la + lb ≤ 1073741824 then some (.s (la + lb) (a * 256 ^ lb + b)) else none
   | .eql => some (.b (la == lb && a == b))
   | .neq => some (.b (!(la == lb && a == b)))
   | _ => none
 | _, _ => none
def sq1 : Nat → V → V → Option Bool
 | 0, .b a, .b b => some (a == b)
 | 1, .i k a, .i k' b => if k = k' then some (a == b) else none
 | 2, .s la a, .s lb b => some (la == lb && a == b)
 | _, _, _ => none
def sqs : List Nat → List V → List V → Option Bool
 | [], [], [] => some true
 | k :: ks, x :: xs, y :: ys => match sq1 k x y with
   | some true => sqs ks xs ys
   | some false => some false
   | none => none
 | _, _, _ => none
def isNil : Nat → V → Option Bool
 | 0, .ns | 1, .np | 2, .nm | 3, .nf | 4, .ni => some true
 | 0, .ts (_ :: _) | 0, .te | 0, .sl _ _ _ _ _ | 1, .tp _ _ | 1, .p _ _ | 2, .m _ | 3, .fn _ _ _ | 4, .ifc _ _ => some false
 | _, _ => none
def putAt (cs : List V) : Nat → List V → List V
 | _, [] => cs
 | off, x :: xs => putAt (cs.set off x) (off + 1) xs
def bldE (sl : Nat → V) (cs : List V) : List (Nat × Nat × AO) → Option (List V)
 | [] => some cs
 | (off, size, x) :: r => match stored (evO sl x) with
   | some l => if l.length = size ∧ off + size ≤ cs.length then bldE sl (putAt cs off l) r else none
   | none => none
def vI : V → Option Int
 | .i _ n => some n
 | _ => none
def evIo (sl : Nat → V) (d : Nat) : Option AO → Option Int
 | none => some d
 | some x => vI (evO sl x)
def pack (agg : Bool) (l : List V) : Option V :=
 match agg with
 | true => some (.ag l)
 | false => match l with
   | [x] => some x
   | _ => none
def okN : V → Bool
 | .p _ _ | .tp _ _ | .fn _ _ _ | .yl _ | .ifc _ _ => true
 | _ => false
def KB.is : KB → V → Bool
 | .b, .b _ => true
 | .i k, .i k' _ => k == k'
 | .s, .s _ _ => true
 | _, _ => false
def KB.iss : List KB → List V → Bool
 | [], [] => true
 | k :: ks, x :: xs => k.is x && KB.iss ks xs
 | _, _ => false
def KT.is : KT → V → Bool
 | .st ks, .ag xs => KB.iss ks xs
 | .k q, x => q.is x
 | _, _ => false
def ae4 : V → V → Bool
 | .b a, .b b => a == b
 | .i k a, .i k' b => k == k' && a == b
 | .s la a, .s lb b => la == lb && a == b
 | _, _ => false
def am0 : List V → List V → Bool
 | [], [] => true
 | x :: xs, y :: ys => ae4 x y && am0 xs ys
 | _, _ => false
def ap8 : V → V → Bool
 | .ag xs, .ag ys => am0 xs ys
 | x, y => ae4 x y
def ap6 (kt : KT) (k : V) : List (V × V × Nat) → Nat → Option (Option Nat)
 | [], _ => some none
 | (a, _) :: r, n => if kt.is a then if ap8 k a then some (some n) else ap6 kt k r (n + 1) else none
def bidx (b : Int) : List (V × V × Nat) → Nat → Option Nat
 | [], _ => none
 | (_, _, n) :: r, k => if (n : Int) = b then some k else bidx b r (k + 1)
def lkpV (h : Hp) (kt : KT) (m key z : V) (ok : Bool) : Option V :=
 if kt.is key then
  match m with
  | .nm => some (if ok then .tu [z, .b false] else z)
  | .m a => match h a with
    | .m es _ => match ap6 kt key es 0 with
      | some (some n) => match es[n]? with
        | some (_, v, _) => some (if ok then .tu [v, .b true] else v)
        | none => none
      | some none => some (if ok then .tu [z, .b false] else z)
      | none => none
    | _ => none
  | _ => none
 else none
def fadV (x : V) (off : Nat) : Option V := match x with
 | .tp row col => some (.tp row (col + off))
 | .p a o => some (.p a (o + off))
 | _ => none
def shlV (a b : V) : Option V := match a, b with
 | .i k n, .i _ m => if m < 0 then none else some (.i k (k.wrap (n * 2 ^ (min m.toNat k.bits))))
 | _, _ => none
def shrV (a b : V) : Option V := match a, b with
 | .i k n, .i _ m => if m < 0 then none else some (.i k (n.fdiv (2 ^ (min m.toNat k.bits))))
 | _, _ => none
def ssxV (h : Hp) (wd : Nat) (x lo hi : V) : Option V := match x, vI lo, vI hi with
 | .sl a off wd' _ none, some l, some q => match h a with
   | .c _ cs => if 0 ≤ l ∧ l ≤ q ∧ wd = wd' ∧ wd ≠ 0 ∧ off + q.toNat * wd ≤ cs.length then some (.sl a (off + l.toNat * wd) wd (q.toNat - l.toNat) none) else none
   | _ => none
 | _, _, _ => none
def evX (sl : Nat → V) (h : Hp) : AX → Option V
 | .mov x => some (evO sl x)
 | .pick c a b => match evO sl c with
   | .b x => some (if x then evO sl a else evO sl b)
   | _ => none
 | .ld x n agg => match evO sl x with
   | .tp row col => if col + n ≤ row.length then pack agg ((row.drop col).take n) else none
   | .p a off => match h a with
     | .c _ cs => if off + n ≤ cs.length then pack agg ((cs.drop off).take n) else none
     | _ => none
   | _ => none
 | .fad x off => fadV (evO sl x) off
 | .iad x i wd => match evO sl x, evO sl i with
   | .ts rows, .i _ n => if 0 ≤ n then match rows[n.toNat]? with
      | some row => if row.length = wd then some (.tp row 0) else none
      | none => none
     else none
   | .sl a off _ len _, .i _ n => if 0 ≤ n ∧ n < len then some (.p a (off + n.toNat * wd)) else none
   | _, _ => none
 | .bin op x y => aq5 op (evO sl x) (evO sl y)
 | .beq ng x y => match evO sl x, evO sl y with
   | .b a, .b b => some (.b (if ng then !(a == b) else a == b))
   | _, _ => none
 | .nleq kind ng x => (isNil kind (evO sl x)).map fun r => .b (if ng then !r else r)
 | .seq kinds ng x y => match evO sl x, evO sl y with
   | .ag a, .ag b => (sqs kinds a b).map fun r => .b (if ng then !r else r)
   | _, _ => none
 | .not x => match evO sl x with
   | .b a => some (.b (!a))
   | _ => none
 | .neg x => match evO sl x with
   | .i k n => some (.i k (k.wrap (0 - n)))
   | _ => none
 | .len str x => match str, evO sl x with
   | true, .s n _ => some (.i .i64 n)
   | false, .ts rows => some (.i .i64 rows.length)
   | false, .ns => some (.i .i64 0)
   | false, .te => some (.i .i64 0)
   | false, .sl _ _ _ n _ => some (.i .i64 n)
   | _, _ => none
 | .cap x => match evO sl x with
   | .ns => some (.i .i64 0)
   | _ => none
 | .mn x y => match evO sl x, evO sl y with
   | .i k a, .i k' b => if k = k' then some (.i k (if b < a then b else a)) else none
   | _, _ => none
 | .mx x y => match evO sl x, evO sl y with
   | .i k a, .i k' b => if k = k' then some (.i k (if b > a then b else a)) else none
   | _, _ => none
 | .fld x off n agg => match evO sl x with
   | .ag cs => if off + n ≤ cs.length then pack agg ((cs.drop off).take n) else none
   | _ => none
 | .bld zero parts => (bldE sl zero parts).map .ag
 | .six x i => match evO sl x, evO sl i with
   | .s l a, .i _ n => if 0 ≤ n ∧ n < l then some (.i .u8 ((a / 256 ^ (l - 1 - n.toNat)) % 256 : Nat)) else none
   | _, _ => none
 | .ssl x lo hi mx wd => match evO sl x with
   | .ns => match evIo sl 0 lo, evIo sl 0 hi, mx with
     | some l, some h, none => if l = 0 ∧ h = 0 then some .ns else none
     | _, _, _ => none
   | .ts rows => match evIo sl 0 lo, evIo sl rows.length hi, mx with
     | some l, some h, none => if 0 ≤ l ∧ l ≤ h ∧ h ≤ rows.length ∧ (rows.all fun r => r.length == wd) then some (.ts ((rows.drop l.toNat).take (h.toNat - l.toNat))) else none
     | _, _, _ => none
   | .sl a off wd' len cp => match evIo sl 0 lo, evIo sl len hi, mx with
     | some l, some h, none => if 0 ≤ l ∧ l ≤ h ∧ h ≤ len ∧ wd = wd' then some (.sl a (off + l.toNat * wd) wd (h.toNat - l.toNat) (cp.map fun c => c - l.toNat)) else none
     | some l, some h, some m => match vI (evO sl m) with
       | some m => if 0 ≤ l ∧ l ≤ h ∧ h ≤ m ∧ m ≤ len ∧ wd = wd' then some (.sl a (off + l.toNat * wd) wd (h.toNat - l.toNat) (some (m.toNat - l.toNat))) else none
       | none => none
     | _, _, _ => none
   | _ => none
 | .str x lo hi => match evO sl x with
   | .s len a => match evIo sl 0 lo, evIo sl len hi with
     | some l, some h => if 0 ≤ l ∧ l ≤ h ∧ h ≤ len then some (.s (h.toNat - l.toNat) ((a / 256 ^ (len - h.toNat)) % 256 ^ (h.toNat - l.toNat))) else none
     | _, _ => none
   | _ => none
 | .cnv k x => match evO sl x with
   | .i _ n => some (.i k (k.wrap n))
   | _ => none
 | .cvs x => match evO sl x with
   | .s l a => some (.s l a)
   | _ => none
 | .mkf f fst caps => some (.fn f (ae5 sl fst) (ae5 sl caps))
 | .mki t x => some (.ifc t (evO sl x))
 | .nck x => if okN (evO sl x) then some (evO sl x) else none
 | .aix x i len n agg => match evO sl x, evO sl i with
   | .ag cs, .i _ k => if 0 ≤ k ∧ k < len ∧ k.toNat * n + n ≤ cs.length then pack agg ((cs.drop (k.toNat * n)).take n) else none
   | _, _ => none
 | .tas t x => match evO sl x with
   | .ifc t' a => if t' = t then some a else none
   | _ => none
 | .ext x i => match evO sl x with
   | .tu vs => vs[i]?
   | _ => none
 | .lkp m k kt zero agg ok => match pack agg zero with
   | some z => lkpV h kt (evO sl m) (evO sl k) z ok
   | none => none
 | .rcv => some .ni
 | .ssx x lo hi wd => ssxV h wd (evO sl x) (evO sl lo) (evO sl hi)
 | .shl x y => shlV (evO sl x) (evO sl y)
 | .shr x y => shrV (evO sl x) (evO sl y)
 | .cpl _ => none
def St.put (st : St) (d : Nat) (v : V) : St := { st with sl := upd st.sl d v }
def St.alc (st : St) (a : Nat) (o : O) (d : Nat) (v : V) : St := { st with sl := upd st.sl d v, h := upd st.h a o }
def St.chg (st : St) (a : Nat) (o : O) : St := { st with h := upd st.h a o }
def rowOf (wd : Nat) (x : V) : Option (List V) := match stored x with
 | some l => if l.length = wd then some l else none
 | none => none
def ab6 (wd : Nat) : List V → Option (List V)
 | [] => some []
 | x :: xs => match rowOf wd x, ab6 wd xs with
   | some r, some rs => some (r ++ rs)
   | _, _ => none
def az2 (h : Hp) (wd : Nat) : V → Option (List V)
 | .ns => some []
 | .te => some []
 | .ts rows => if rows.all (fun r => r.length == wd) = true then some rows.flatten else none
 | .sl a off wd' len _ => match h a with
   | .c _ cs => if wd = wd' ∧ off + len * wd ≤ cs.length then some ((cs.drop off).take (len * wd)) else none
   | _ => none
 | _ => none
def nsl : V → Option Nat
 | .ns => some 0
 | .te => some 0
 | .ts rows => some rows.length
 | .sl _ _ _ n _ => some n
 | _ => none
def room (k bytes : Nat) : Bool := decide (k * bytes ≤ 140737488355328 ∧ k ≤ 140737488355328)
def fitsC (cp : Option Nat) (need e l : Nat) : Bool := match cp with
 | some c => decide (need ≤ c)
 | none => decide (e ≤ l)
def appE (rb : Nat) (st : St) (d k : Nat) (s : V) (xs : List V) (n wd bytes : Nat) : Option St :=
 match s with
 | .ns => if n = 0 then some (st.put d .ns) else if room n bytes then some (st.alc (rb + k) (.c true xs) d (.sl (rb + k) 0 wd n none)) else none
 | .sl a off wd' len cp =>
   if n = 0 then some (st.put d (.sl a off wd' len cp)) else
   if wd ≠ wd' ∨ wd = 0 then none else
   match st.h a with
   | .c gr cs =>
     if fitsC cp (len + n) (off + (len + n) * wd) cs.length then
      if off + (len + n) * wd ≤ cs.length then some ((st.chg a (.c gr (putAt cs (off + len * wd) xs))).put d (.sl a off wd (len + n) cp)) else none
     else if room (len + n) bytes ∧ off + len * wd ≤ cs.length then
      if cp.isSome ∨ gr = false then some (st.alc (rb + k) (.c true (((cs.drop off).take (len * wd)) ++ xs)) d (.sl (rb + k) 0 wd (len + n) none))
      else if off = 0 then some ((st.chg a .gone).alc (rb + k) (.c true (cs.take (len * wd) ++ xs)) d (.sl (rb + k) 0 wd (len + n) none))
      else some ((st.chg a .gone).alc (rb + k) (.c true (((cs.drop off).take (len * wd)) ++ xs)) d (.sl (rb + k) 0 wd (len + n) none))
     else none
   | _ => none
 | _ => none
def q9 (rb : Nat) (st : St) : AOp → Option St
 | .set d x => (evX st.sl st.h x).map fun v => st.put d v
 | .new d k zero => some (st.alc (rb + k) (.c false zero) d (.p (rb + k) 0))
 | .box d k x => (stored (evO st.sl x)).map fun l => st.alc (rb + k) (.c false l) d (.p (rb + k) 0)
 | .bsl d k wd xs => (ab6 wd (ae5 st.sl xs)).map fun l => st.alc (rb + k) (.c false l) d (.sl (rb + k) 0 wd xs.length none)
 | .mks d k n c wd bytes zero => match evO st.sl n, evO st.sl c with
   | .i _ n, .i _ c => if 0 ≤ n ∧ n ≤ c ∧ c ≤ 1073741824 ∧ bytes * c ≤ 281474976710656 ∧ zero.length = wd then
      some (st.alc (rb + k) (.c false (List.replicate c.toNat zero).flatten) d (.sl (rb + k) 0 wd n.toNat none))
     else none
   | _, _ => none
 | .mkm d k => some (st.alc (rb + k) (.m [] 0) d (.m (rb + k)))
 | .stp a n x => match evO st.sl a, stored (evO st.sl x) with
   | .p b off, some l => match st.h b with
     | .c gr cs => if l.length = n ∧ off + n ≤ cs.length then some (st.chg b (.c gr (putAt cs off l))) else none
     | _ => none
   | _, _ => none
 | .app d k s x wd bytes => match az2 st.h wd (evO st.sl x), nsl (evO st.sl x) with
   | some xs, some n => appE rb st d k (evO st.sl s) xs n wd bytes
   | _, _ => none
 | .apz d k s n wd bytes zero => match evO st.sl n with
   | .i _ n => if 0 ≤ n ∧ n ≤ 1073741824 ∧ zero.length = wd ∧ n * bytes ≤ 281474976710656 then appE rb st d k (evO st.sl s) (List.replicate n.toNat zero).flatten n.toNat wd bytes else none
   | _ => none
 | .cpy d a b wd => match evO st.sl a, evO st.sl b with
   | .sl aa off wa la cp, .sl ab ob wb lb cb => match az2 st.h wd (.sl ab ob wb lb cb), st.h aa with
     | some xs, .c gr cs => if wd = wa ∧ off + la * wd ≤ cs.length then some ((st.chg aa (.c gr (putAt cs off (xs.take (min la lb * wd))))).put d (.i .i64 (min la lb : Nat))) else none
     | _, _ => none
   | _, _ => none
 | .clr x wd zero => match evO st.sl x with
   | .sl a off wd' len _ => match st.h a with
     | .c gr cs => if wd = wd' ∧ zero.length = wd ∧ off + len * wd ≤ cs.length then some (st.chg a (.c gr (putAt cs off (List.replicate len zero).flatten))) else none
     | _ => none
   | _ => none
 | .mst m k v kt => match evO st.sl m with
   | .m a => match st.h a with
     | .m es clock => if kt.is (evO st.sl k) then match ap6 kt (evO st.sl k) es 0 with
        | some (some n) => match es[n]? with
          | some (_, _, b) => some (st.chg a (.m (es.set n (evO st.sl k, evO st.sl v, b)) clock))
          | none => none
        | some none => some (st.chg a (.m (es ++ [(evO st.sl k, evO st.sl v, clock)]) (clock + 1)))
        | none => none
       else none
     | _ => none
   | _ => none
 | .mdl m k kt => match evO st.sl m with
   | .m a => match st.h a with
     | .m es clock => if kt.is (evO st.sl k) then match ap6 kt (evO st.sl k) es 0 with
        | some (some n) => some (st.chg a (.m (es.eraseIdx n) clock))
        | some none => some st
        | none => none
       else none
     | _ => none
   | _ => none
 | .men d m k kt zero agg => match evO st.sl m, pack agg zero with
   | .m a, some z => match st.h a with
     | .m es clock => if kt.is (evO st.sl k) then match ap6 kt (evO st.sl k) es 0 with
        | some (some n) => match es[n]? with
          | some (_, v, b) => some ((st.chg a (.m (es.set n (evO st.sl k, v, b)) clock)).put d (.tu [v, .i .i64 b]))
          | none => none
        | some none => some ((st.chg a (.m (es ++ [(evO st.sl k, z, clock)]) (clock + 1))).put d (.tu [z, .i .i64 clock]))
        | none => none
       else none
     | _ => none
   | _, _ => none
 | .ens m s v => match evO st.sl m, evO st.sl s with
   | .m a, .i _ b => match st.h a with
     | .m es clock => match bidx b es 0 with
       | some n => match es[n]? with
         | some (k, _, q) => some (st.chg a (.m (es.set n (k, evO st.sl v, q)) clock))
         | none => none
       | none => none
     | _ => none
   | _, _ => none
 | _ => none
end Go.B
