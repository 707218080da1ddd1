/-
  The values of the abstract evaluator, and what it means that a value of the model stands for one. Program-independent.
-/
import Derived.Calls
import Derived.Laws.Sem
import Derived.Laws.World
namespace Go.Abs

/-- trees: values that no later write changes -/
inductive TV where
  | b (x : Bool)
  | i (k : IntKind) (n : Int)
  | s (x : List UInt8)
  | nl
  | ns
  | nm
  | nf
  | ni
  | ts (rows : List (List TV))
  | ag (cs : List TV)
  | tu (vs : List TV)
  | fn (f : FuncId) (caps : List TV)
  | ifc (t : TypeId) (v : TV)
  deriving Inhabited

/-- what one cell may hold -/
inductive AC where
  | t (x : TV)
  | und
  | os (wd : Nat) (rows : List (List TV))
  | ex (wd : Nat) (rows : List (List TV))
  | tp (row : List TV) (col : Nat)
  | p (blk wd row col : Nat)
  | sl (blk wd row len : Nat)
  | m (blk : Nat)
  | it (blk : Nat)
  | fn (f : FuncId) (caps : List AC)
  | ifc (t : TypeId) (v : AC)
  deriving Inhabited

inductive EV where
  | c (x : AC)
  | ag (xs : List AC)
  deriving Inhabited

inductive SV where
  | e (x : EV)
  | tu (xs : List EV)
  | bx (cs : List AC)
  deriving Inhabited

inductive HB where
  | rows (wd : Nat) (rs : List (List AC))
  | map (es : List (TV × EV))
  | iter (map : Nat) (left : List Nat) (cur : Option Nat)
  | gone
  deriving Inhabited

structure St where
  sl : List SV
  h : List HB

/-- ghosts: which cells are frozen; which block stands for an abstract one; who owns a block -/
structure Gh where
  Fz : Nat → Nat → Prop
  be : Nat → Nat
  om : Nat → List Nat
  n : Nat

inductive TVR (w : World) (Fz : Nat → Nat → Prop) : TV → Value → Prop
  | b (x : Bool) : TVR w Fz (.b x) (.bool x)
  | i (k : IntKind) (n : Int) : TVR w Fz (.i k n) (.int k n)
  | s (a : ByteArray) : TVR w Fz (.s a.data.toList) (.string a)
  | nl : TVR w Fz .nl (.pointer none)
  | ns : TVR w Fz .ns (.slice none 0 0)
  | nm : TVR w Fz .nm (.map none)
  | nf : TVR w Fz .nf .nilFunc
  | ni : TVR w Fz .ni .nilIface
  | ts0 : TVR w Fz (.ts []) (.slice none 0 0)
  | tse (a : Addr) (cap : Nat) : TVR w Fz (.ts []) (.slice (some a) 0 cap)
  | ts (rows : List (List TV)) (wd c o cap : Nat) (u : Nat → Nat → Value) (hw : ∀ (i : Nat) (row : List TV), rows[i]? = some row → row.length = wd) (hcap : rows.length ≤ cap)
      (hc : ∀ (i j : Nat) (row : List TV) (x : TV), rows[i]? = some row → row[j]? = some x → Fz c (o + i * wd + j) ∧ w.cell? ⟨c, o + i * wd + j, none⟩ = some (u i j))
      (hr : ∀ (i j : Nat) (row : List TV) (x : TV), rows[i]? = some row → row[j]? = some x → TVR w Fz x (u i j))
      (h1 : ∀ (i j : Nat) (row : List TV) (x : TV), rows[i]? = some row → row[j]? = some x → (u i j).oneCell' = true) :
      TVR w Fz (.ts rows) (.slice (some ⟨c, o, none⟩) rows.length cap)
  | ag (cs : List TV) (a : Array Value) (hs : a.size = cs.length) (h1 : ∀ (j : Nat) (x : TV) (v : Value), cs[j]? = some x → a[j]? = some v → v.oneCell' = true)
      (hr : ∀ (j : Nat) (x : TV) (v : Value), cs[j]? = some x → a[j]? = some v → TVR w Fz x v) : TVR w Fz (.ag cs) (.agg a)
  | tu (vs : List TV) (a : Array Value) (hs : a.size = vs.length) (hr : ∀ (j : Nat) (x : TV) (v : Value), vs[j]? = some x → a[j]? = some v → TVR w Fz x v) : TVR w Fz (.tu vs) (.tuple a)
  | fn (f : FuncId) (caps : List TV) (a : Array Value) (hs : a.size = caps.length) (hr : ∀ (j : Nat) (x : TV) (v : Value), caps[j]? = some x → a[j]? = some v → TVR w Fz x v) :
      TVR w Fz (.fn f caps) (.func (.func f) #[] a)
  | ifc (t : TypeId) (x : TV) (v : Value) (hr : TVR w Fz x v) : TVR w Fz (.ifc t x) (.iface t v)

inductive ACR (w : World) (g : Gh) : List Nat → AC → Value → Prop
  | t {own : List Nat} {x : TV} {v : Value} (h : TVR w g.Fz x v) : ACR w g own (.t x) v
  | und {own : List Nat} {v : Value} : ACR w g own .und v
  | os {own : List Nat} (wd : Nat) (rows : List (List TV)) (c cap : Nat) (arr : Array Value) (T : TypeId) (u : Nat → Nat → Value) (ho : g.om c = own) (hn : own ≠ [])
      (hb : w.heap[c]? = some (.cells arr T (0, 0))) (hsz : arr.size = cap * wd) (hcap : rows.length ≤ cap) (hw : ∀ (i : Nat) (row : List TV), rows[i]? = some row → row.length = wd)
      (hc : ∀ (i j : Nat) (row : List TV) (x : TV), rows[i]? = some row → row[j]? = some x → g.Fz c (i * wd + j) ∧ arr[i * wd + j]? = some (u i j) ∧ (u i j).oneCell' = true ∧ TVR w g.Fz x (u i j))
      (hz : ∀ o, g.Fz c o → o < rows.length * wd) :
      ACR w g own (.os wd rows) (.slice (some ⟨c, 0, none⟩) rows.length cap)
  | ex {own : List Nat} (wd : Nat) (rows : List (List TV)) (c cap : Nat) (arr : Array Value) (T : TypeId) (u : Nat → Nat → Value) (ho : g.om c = own) (hn : own ≠ [])
      (hb : w.heap[c]? = some (.cells arr T (0, 0))) (hsz : arr.size = cap * wd) (hcap : rows.length ≤ cap) (hw : ∀ (i : Nat) (row : List TV), rows[i]? = some row → row.length = wd)
      (hc : ∀ (i j : Nat) (row : List TV) (x : TV), rows[i]? = some row → row[j]? = some x → arr[i * wd + j]? = some (u i j) ∧ (u i j).oneCell' = true ∧ TVR w g.Fz x (u i j))
      (hz : ∀ o, ¬ g.Fz c o) :
      ACR w g own (.ex wd rows) (.slice (some ⟨c, 0, none⟩) rows.length cap)
  | tp {own : List Nat} (row : List TV) (col c o : Nat) (u : Nat → Value)
      (hc : ∀ (j : Nat) (x : TV), row[j]? = some x → g.Fz c (o + j) ∧ w.cell? ⟨c, o + j, none⟩ = some (u j) ∧ (u j).oneCell' = true ∧ TVR w g.Fz x (u j)) :
      ACR w g own (.tp row col) (.pointer (some ⟨c, o + col, none⟩))
  | p {own : List Nat} (blk wd row col : Nat) (hn : blk < g.n) : ACR w g own (.p blk wd row col) (.pointer (some ⟨g.be blk, row * wd + col, none⟩))
  | sl {own : List Nat} (blk wd row len cap off : Nat) (hcap : len ≤ cap) (hn : blk < g.n) (ho : len ≠ 0 → off = row * wd) : ACR w g own (.sl blk wd row len) (.slice (some ⟨g.be blk, off, none⟩) len cap)
  | m {own : List Nat} (blk : Nat) (hn : blk < g.n) : ACR w g own (.m blk) (.map (some (g.be blk)))
  | it {own : List Nat} (blk : Nat) (hn : blk < g.n) : ACR w g own (.it blk) (.pointer (some ⟨g.be blk, 0, none⟩))
  | fn {own : List Nat} (f : FuncId) (caps : List AC) (a : Array Value) (hs : a.size = caps.length) (hr : ∀ (j : Nat) (x : AC) (v : Value), caps[j]? = some x → a[j]? = some v → ACR w g [] x v) :
      ACR w g own (.fn f caps) (.func (.func f) #[] a)
  | ifc {own : List Nat} (t : TypeId) (x : AC) (v : Value) (hr : ACR w g [] x v) : ACR w g own (.ifc t x) (.iface t v)

/-- a list of cells stands for values, cell j owned under own ++ [j] -/
def CellsR (w : World) (g : Gh) (own : List Nat) (cs : List AC) (a : Array Value) : Prop :=
  a.size = cs.length ∧ ∀ (j : Nat) (x : AC) (v : Value), cs[j]? = some x → a[j]? = some v → v.oneCell' = true ∧ ACR w g (own ++ [j]) x v

inductive EVR (w : World) (g : Gh) : List Nat → EV → Value → Prop
  | c {own : List Nat} {x : AC} {v : Value} (h : ACR w g own x v) : EVR w g own (.c x) v
  | ag {own : List Nat} {xs : List AC} {a : Array Value} (h : CellsR w g own xs a) : EVR w g own (.ag xs) (.agg a)

inductive SVR (w : World) (g : Gh) : List Nat → SV → Value → Prop
  | e {own : List Nat} {x : EV} {v : Value} (h : EVR w g own x v) : SVR w g own (.e x) v
  | tu {own : List Nat} (xs : List EV) (a : Array Value) (hs : a.size = xs.length) (hr : ∀ (j : Nat) (x : EV) (v : Value), xs[j]? = some x → a[j]? = some v → EVR w g (own ++ [j]) x v) : SVR w g own (.tu xs) (.tuple a)
  | bx {own : List Nat} (cs : List AC) (c : Nat) (arr : Array Value) (T : TypeId) (ho : g.om c = own) (hn : own ≠ []) (hb : w.heap[c]? = some (.cells arr T (0, 0)))
      (hz : ∀ o, ¬ g.Fz c o) (hc : CellsR w g own cs arr) : SVR w g own (.bx cs) (.pointer (some ⟨c, 0, none⟩))

/-- the iterator of a range over a map: the keys that are still to come -/
def LeftOf (ents : Array MapEntry) (seen : Array Nat) : List MapEntry := (ents.filter fun e => !seen.contains e.born).toList

def HBR (w : World) (g : Gh) (i : Nat) : HB → Prop
  | .rows wd rs => ∃ arr T, w.heap[g.be i]? = some (.cells arr T (0, 0)) ∧ g.om (g.be i) = [1, i] ∧ (∀ o, ¬ g.Fz (g.be i) o) ∧ rs.length * wd ≤ arr.size ∧
      (∀ (r : Nat) (row : List AC), rs[r]? = some row → row.length = wd) ∧
      ∀ (r j : Nat) (row : List AC) (x : AC), rs[r]? = some row → row[j]? = some x → ∃ v, arr[r * wd + j]? = some v ∧ v.oneCell' = true ∧ ACR w g [1, i, r * wd + j] x v
  | .map es => ∃ ents clock, w.heap[g.be i]? = some (.map ents clock) ∧ g.om (g.be i) = [1, i] ∧ (∀ o, ¬ g.Fz (g.be i) o) ∧ ents.size = es.length ∧
      (∀ (k : Nat) (e : MapEntry), ents[k]? = some e → e.born < clock) ∧ (∀ (k l : Nat) (e e' : MapEntry), ents[k]? = some e → ents[l]? = some e' → e.born = e'.born → k = l) ∧
      ∀ (k : Nat) (x : TV × EV) (e : MapEntry), es[k]? = some x → ents[k]? = some e → TVR w g.Fz x.1 e.key ∧ EVR w g [1, i, 0] x.2 e.val
  | .iter mp left cur => mp < g.n ∧ ∃ since seen ents clock, w.heap[g.be i]? = some (.mapIter (some (g.be mp)) since seen clock) ∧ g.om (g.be i) = [1, i] ∧ (∀ o, ¬ g.Fz (g.be i) o) ∧
      w.heap[g.be mp]? = some (.map ents clock) ∧ g.om (g.be mp) = [1, mp] ∧ (∀ (k : Nat) (e : MapEntry), ents[k]? = some e → e.born < since) ∧ since ≤ clock ∧
        (∀ (k l : Nat) (e e' : MapEntry), ents[k]? = some e → ents[l]? = some e' → e.born = e'.born → k = l) ∧ left.map (fun k => ents[k]?) = (LeftOf ents seen).map some ∧ ∀ k, cur = some k → ∃ e, ents[k]? = some e ∧ seen.back? = some e.born
  | .gone => True

structure StR (w : World) (g : Gh) (tmps : Array Value) (st : St) : Prop where
  len : st.sl.length = tmps.size
  sl : ∀ s x v, st.sl[s]? = some x → tmps[s]? = some v → SVR w g [0, s] x v
  hp : ∀ i b, st.h[i]? = some b → HBR w g i b
  fz : ∀ c o, g.Fz c o → c < w.heap.size
  om : ∀ c, g.om c ≠ [] → c < w.heap.size
  n : g.n = st.h.length

/-- one step of the world: what is owned by nobody in T, and what is frozen, stays -/
structure Stp (w : World) (g : Gh) (w' : World) (g' : Gh) (T : List Nat → Prop) : Prop where
  size : w.heap.size ≤ w'.heap.size
  heap : ∀ c, c < w.heap.size → ¬ T (g.om c) → w'.heap[c]? = w.heap[c]?
  fz : ∀ c o, g.Fz c o → g'.Fz c o ∧ w'.cell? ⟨c, o, none⟩ = w.cell? ⟨c, o, none⟩
  fznew : ∀ c o, g'.Fz c o → g.Fz c o ∨ w.heap.size ≤ c ∨ T (g.om c)
  om : ∀ c, c < w.heap.size → ¬ T (g.om c) → g'.om c = g.om c
  omnew : ∀ c, g'.om c ≠ [] → w.heap.size ≤ c ∨ g.om c ≠ []
  be : ∀ i, i < g.n → g'.be i = g.be i
  n : g.n ≤ g'.n
  out : w'.output = w.output
  os : w'.os = w.os
  no : ¬ T []

end Go.Abs
