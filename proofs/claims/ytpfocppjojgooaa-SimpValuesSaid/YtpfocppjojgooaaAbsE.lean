/-
  The check of one operation against its translation; expressions have the values that they should. Program-independent.
-/
import Derived.Test.YtpfocppjojgooaaAbsD
import Derived.Laws.CopyRow
import Derived.Laws.Cells
import Derived.ChangeKeysEq
namespace Go.Abs

inductive ER where
  | ptr (s col : Nat)
  | als (s : Nat)
  | alb (s col : Nat)
  deriving DecidableEq, Inhabited
def ER.slot : ER → Nat
  | .ptr s _ => s
  | .als s => s
  | .alb s _ => s
abbrev Env := List (Nat × ER)

def cst : Value → TV → Bool
  | .bool b, .b x => b == x
  | .int k n, .i k' m => k == k' && n == m
  | .string a, .s x => a.data.toList == x
  | .pointer none, .nl => true
  | .slice none 0 0, .ns => true
  | .map none, .nm => true
  | .nilFunc, .nf => true
  | .nilIface, .ni => true
  | _, _ => false

def opd : Operand → AO → Bool
  | .tmp t, .s n => t == n
  | .const v, .k x => cst v x
  | .func f, .k (.fn f' []) => f == f'
  | _, _ => false
def opds : List Operand → List AO → Bool
  | [], [] => true
  | o :: os, x :: xs => opd o x && opds os xs
  | _, _ => false
def opdo : Option Operand → Option AO → Bool
  | none, none => true
  | some o, some x => opd o x
  | _, _ => false

def szT (P : Program) (t : TypeId) : Option Nat := (P.info? t).map (·.size)
def aggT (P : Program) (t : TypeId) : Option Bool := (P.underlying t).map fun d => match d with | .struct _ | .array _ _ => true | _ => false
/-- the size of a type, and whether it is a struct or an array -/
def shp (P : Program) (t : TypeId) (n : Nat) (agg : Bool) : Bool := szT P t == some n && aggT P t == some agg && (agg || n == 1)
def fieldOk (P : Program) (t f : Nat) (off : Nat) : Bool :=
  match P.underlying t with
  | some (.struct fs) => match fs[f]? with
    | some x => x.offset == off && (match szT P x.type with | some (_ + 1) => true | _ => false)
    | none => false
  | _ => false
def fieldIs (P : Program) (t f : Nat) (off n : Nat) (agg : Bool) : Bool :=
  match P.underlying t with
  | some (.struct fs) => match fs[f]? with
    | some x => x.offset == off && shp P x.type n agg
    | none => false
  | _ => false
def sliceEl (P : Program) (t wd : Nat) : Bool :=
  match P.underlying t with
  | some (.slice e) => szT P e == some wd
  | _ => false
/-- the operand is the address of a place in the box of slot s -/
def atBox (G : Env) (a : Operand) (s col : Nat) : Bool :=
  match a with
  | .tmp t => (t == s && col == 0) || G.contains (t, .ptr s col)
  | _ => false

def csts : List Value → List TV → Bool
  | [], [] => true
  | v :: vs, x :: xs => cst v x && csts vs xs
  | _, _ => false
def zeroIs (P : Program) (t : TypeId) (zero : List TV) : Bool :=
  match (P.info? t).bind (·.zero) with
  | some z => csts z.cells.toList zero
  | none => false

def partsOk (P : Program) (fs : Array Field) : List (Nat × Operand) → List (Nat × Nat × AO) → Bool
  | [], [] => true
  | (i, a) :: r, (off, size, x) :: r' => (match fs[i]? with | some f => f.offset == off && szT P f.type == some size | none => false) && opd a x && partsOk P fs r r'
  | _, _ => false

def nilKind (P : Program) (t : TypeId) (kind : Nat) : Bool :=
  match P.underlying t, kind with
  | some (.slice _), 0 | some (.pointer _), 1 | some (.map _ _), 2 | some (.func _ _ _), 3 | some (.interface _), 4 => true
  | _, _ => false
def nilConst (o : Operand) (kind : Nat) : Bool :=
  match o, kind with
  | .const (.slice none 0 0), 0 | .const (.pointer none), 1 | .const (.map none), 2 | .const .nilFunc, 3 | .const .nilIface, 4 => true
  | _, _ => false
def basicKind (P : Program) (t : TypeId) (k : Nat) : Bool :=
  match P.underlying t, k with
  | some .bool, 0 | some (.int _), 1 | some .string, 2 => true
  | _, _ => false
def fieldsBasic (P : Program) : List Field → Nat → List Nat → Bool
  | [], _, [] => true
  | f :: fs, i, k :: ks => f.offset == i && f.name != "_" && basicKind P f.type k && fieldsBasic P fs (i + 1) ks
  | _, _, _ => false
def structEq (P : Program) (t : TypeId) (kinds : List Nat) : Bool :=
  match P.underlying t with
  | some (.struct fs) => fieldsBasic P fs.toList 0 kinds && !P.stoodInHeld t && !P.eqGuardType P.depth t
  | _ => false

def chkX (P : Program) (G : Env) : Op → AX → Bool
  | .move a, .mov x => opd a x
  | .assign a, .mov x => opd a x
  | .pick c a b, .pick c' a' b' => opd c c' && opd a a' && opd b b'
  | .load T a, .ldb s col n agg => atBox G a s col && shp P T n agg
  | .load T a, .ld x n agg => opd a x && shp P T n agg
  | .fieldAddr T a f, .fad x off => opd a x && fieldOk P T f off
  | .indexAddr T a i, .iad x j wd => opd a x && opd i j && sliceEl P T wd
  | .binOp op _ a b _, .bin op' x y => op == op' && opd a x && opd b y
  | .binOp op T a b _, .beq ng x y => op == (if ng then .neq else .eql) && basicKind P T 0 && opd a x && opd b y
  | .binOp op T a b _, .nleq kind ng x => op == (if ng then .neq else .eql) && nilKind P T kind && ((opd a x && nilConst b kind) || (opd b x && nilConst a kind))
  | .binOp op T a b _, .seq kinds ng x y => op == (if ng then .neq else .eql) && structEq P T kinds && opd a x && opd b y
  | .unOp op _ a, .un op' x => op == op' && opd a x
  | .call { callee := .builtin .len, args, argTypes }, .len str x =>
    (match args.toList, argTypes.toList with
     | [a], [T] => opd a x && (match P.underlying T, str with | some .string, true => true | some (.slice _), false => true | _, _ => false)
     | _, _ => false)
  | .call { callee := .builtin .min, args, .. }, .mn x y => opds args.toList [x, y]
  | .call { callee := .builtin .max, args, .. }, .mx x y => opds args.toList [x, y]
  | .field T a f, .fld x off n agg => opd a x && fieldIs P T f off n agg
  | .build T parts, .bld zero parts' =>
    (match P.underlying T with
     | some (.struct fs) => zeroIs P T zero && fs.toList.all (fun f => (szT P f.type).isSome) && partsOk P fs parts.toList parts'
     | _ => false)
  | .index T a i, .six x j => opd a x && opd i j && (match P.underlying T with | some .string => true | _ => false)
  | .slice T a lo hi none, .ssl str x lo' hi' wd => opd a x && opdo lo lo' && opdo hi hi' && (if str then (match P.underlying T with | some .string => true | _ => false) else sliceEl P T wd)
  | .convert S D a, .cnv k x => opd a x && (P.underlying S).isSome && (match P.underlying D with | some (.int k') => k == k' | _ => false)
  | .convert S D a, .cvs x => opd a x && (P.underlying S).isSome && (match P.underlying D with | some .string => true | _ => false)
  | .makeFunc (.func f) first caps, .mkf f' caps' => f == f' && first.isEmpty && opds caps.toList caps'
  | .makeInterface T a, .mki t x => T == t && opd a x && (match P.underlying T with | some (.interface _) | none => false | _ => true)
  | _, _ => false

def EntR (w : World) (tmps : Array Value) (st : St) (t : Nat) : ER → Prop
  | .ptr s col => ∃ c, tmps[s]? = some (.pointer (some ⟨c, 0, none⟩)) ∧ tmps[t]? = some (.pointer (some ⟨c, col, none⟩))
  | .als s => ∃ v, tmps[s]? = some v ∧ tmps[t]? = some v
  | .alb s col => ∃ c v cs, tmps[s]? = some (.pointer (some ⟨c, 0, none⟩)) ∧ st.sl[s]? = some (.bx cs) ∧ w.cell? ⟨c, col, none⟩ = some v ∧ tmps[t]? = some v
def EnvR (w : World) (tmps : Array Value) (st : St) (G : Env) : Prop := ∀ t r, (t, r) ∈ G → EntR w tmps st t r

section
variable {P : Program} {w : World} {g : Gh} {tmps : Array Value} {st : St} {G : Env} {ds : List Deferred}

theorem cst_sound {v : Value} {x : TV} (h : cst v x = true) : TVR w g.Fz x v := by
  unfold cst at h
  split at h
  · simp at h; subst h; exact .b _
  · simp at h; obtain ⟨rfl, rfl⟩ := h; exact .i _ _
  · simp at h; subst h; exact .s _
  · exact .nl
  · exact .ns
  · exact .nm
  · exact .nf
  · exact .ni
  · cases h

theorem opd_sound (h : StR w g tmps st) {o : Operand} {x : AO} {e : EV} (hc : opd o x = true) (hx : evO st x = some e) (own : List Nat) :
    EVR w g own e (Act.eval { tmps, defers := ds } o) := by
  unfold opd at hc
  split at hc
  · rename_i t n
    simp at hc; subst hc
    simp only [evO] at hx
    split at hx
    · rename_i y hy
      cases hx
      obtain ⟨v, h1, h2, h3⟩ := h.get hy
      simp only [Act.eval, h2]
      cases h3 with | e h3 => exact h3.read own
    · cases hx
  · simp only [evO] at hx; cases hx
    exact EVR.ofT (cst_sound hc) own
  · simp at hc; subst hc
    simp only [evO] at hx; cases hx
    exact .c (.t (.fn _ [] #[] rfl (fun j x v e1 _ => by simp at e1)))
  · cases hc

end
end Go.Abs
