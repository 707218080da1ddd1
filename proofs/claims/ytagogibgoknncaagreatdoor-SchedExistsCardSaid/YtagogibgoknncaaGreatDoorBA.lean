/-
  The values of the second abstract machine: one heap of objects. What it means that a value, an object, a state of the model stands for one. Program-independent.
-/
import Derived.Calls
import Derived.Laws.Sem
import Derived.Laws.World
set_option linter.unusedSectionVars false
set_option linter.unusedVariables false
namespace Go.B
inductive V where
 | b (x : Bool)
 | i (k : IntKind) (n : Int)
 | s (len n : Nat)
 | np
 | ns
 | nm
 | nf
 | ni
 | p (a off : Nat)
 | sl (a off wd len : Nat) (cp : Option Nat)
 | m (a : Nat)
 | yl (a : Nat)
 | fn (f : FuncId) (fst caps : List V)
 | ifc (t : TypeId) (v : V)
 | ag (cs : List V)
 | tu (vs : List V)
 | und
 | ts (rows : List (List V))
 | tp (row : List V) (col : Nat)
 | te
 deriving Inhabited
def enc : List UInt8 → Nat := List.foldl (fun n b => n * 256 + b.toNat) 0
inductive BinO where
 | add | sub | mul | quo | rem | and | or | xor | eql | neq | lss | leq | gtr | geq
 deriving DecidableEq, Inhabited
inductive AO where
 | s (n : Nat)
 | k (x : V)
 deriving Inhabited
inductive KB where
 | b
 | i (k : IntKind)
 | s
 deriving DecidableEq, Inhabited
inductive KT where
 | st (ks : List KB)
 | k (k : KB)
 deriving DecidableEq, Inhabited
inductive AX where
 | mov (x : AO)
 | pick (c a b : AO)
 | ld (x : AO) (n : Nat) (agg : Bool)
 | fad (x : AO) (off : Nat)
 | iad (x i : AO) (wd : Nat)
 | bin (op : BinO) (x y : AO)
 | beq (ng : Bool) (x y : AO)
 | nleq (kind : Nat) (ng : Bool) (x : AO)
 | seq (kinds : List Nat) (ng : Bool) (x y : AO)
 | not (x : AO)
 | neg (x : AO)
 | cpl (x : AO)
 | shl (x y : AO)
 | shr (x y : AO)
 | len (str : Bool) (x : AO)
 | cap (x : AO)
 | mn (x y : AO)
 | mx (x y : AO)
 | fld (x : AO) (off n : Nat) (agg : Bool)
 | bld (zero : List V) (parts : List (Nat × Nat × AO))
 | six (x i : AO)
 | ssl (x : AO) (lo hi mx : Option AO) (wd : Nat)
 | str (x : AO) (lo hi : Option AO)
 | cnv (k : IntKind) (x : AO)
 | cvs (x : AO)
 | mkf (f : FuncId) (fst caps : List AO)
 | mki (t : TypeId) (x : AO)
 | nck (x : AO)
 | aix (x i : AO) (len n : Nat) (agg : Bool)
 | tas (t : TypeId) (x : AO)
 | ext (x : AO) (i : Nat)
 | lkp (m k : AO) (kt : KT) (zero : List V) (agg ok : Bool)
 | rcv
 | ssx (x lo hi : AO) (wd : Nat)
 deriving Inhabited
inductive AOp where
 | set (d : Nat) (x : AX)
 | new (d k : Nat) (zero : List V)
 | box (d k : Nat) (x : AO)
 | bsl (d k wd : Nat) (xs : List AO)
 | mks (d k : Nat) (n c : AO) (wd bytes : Nat) (zero : List V)
 | mkm (d k : Nat)
 | stp (a : AO) (n : Nat) (x : AO)
 | app (d k : Nat) (s x : AO) (wd bytes : Nat)
 | apz (d k : Nat) (s n : AO) (wd bytes : Nat) (zero : List V)
 | cpy (d : Nat) (a b : AO) (wd : Nat)
 | clr (x : AO) (wd : Nat) (zero : List V)
 | mst (m k v : AO) (kt : KT)
 | mdl (m k : AO) (kt : KT)
 | men (d : Nat) (m k : AO) (kt : KT) (zero : List V) (agg : Bool)
 | ens (m st v : AO)
 | cal (d : Nat) (f : FuncId) (args : List AO)
 | cav (d : Nat) (x : AO) (args : List AO)
 | inv (d : Nat) (x : AO) (args : List AO) (tb : List (TypeId × FuncId × Option (Nat × Bool)))
 | dfr (x : AO) (args : List AO)
 deriving Inhabited
structure GOp where
 g : Option (Nat × Bool)
 op : AOp
 deriving Inhabited
inductive ACode where
 | skip
 | reg (na : Nat) (ops : List GOp)
 | drw (na : Nat) (ops : List (Nat × GOp × List Nat))
 | seq (a b : ACode)
 | cond (c : AO) (a b : ACode)
 | block (id : Nat) (a : ACode)
 | loop (a : ACode)
 | exit (id : Nat)
 | ret
 | bad
 | rfn (m : List Nat) (x : AO) (ps : List Nat) (asg bd : ACode)
 deriving Inhabited
inductive O where
 | no
 | gone
 | c (gr : Bool) (cs : List V)
 | m (es : List (V × V × Nat)) (clock : Nat)
 | lp (ps : List Nat) (asg bd : ACode) (sl : List (Nat × V)) (stt : LoopState) (pnd : Option (Option Nat))
instance : Inhabited O := ⟨.no⟩
def O.live : O → Bool
 | .no | .gone => false
 | _ => true
structure G where
 be : Nat → Nat
 cz : Nat → Nat × Nat
 dom : Nat → Prop
 fz : Nat → Nat → Option Value
inductive VR (g : G) : V → Value → Prop
 | b (x : Bool) : VR g (.b x) (.bool x)
 | i (k : IntKind) (n : Int) : VR g (.i k n) (.int k n)
 | s (a : ByteArray) : VR g (.s a.data.toList.length (enc a.data.toList)) (.string a)
 | np : VR g .np (.pointer none)
 | ns : VR g .ns (.slice none 0 0)
 | nm : VR g .nm (.map none)
 | nf : VR g .nf .nilFunc
 | ni : VR g .ni .nilIface
 | p (a off : Nat) (hd : g.dom a) : VR g (.p a off) (.pointer (some ⟨g.be a, off + (g.cz a).2, none⟩))
 | sl (a off wd len : Nat) (cp : Option Nat) (cap o : Nat) (hd : g.dom a) (hl : len ≤ cap) (ho : cap ≠ 0 → o = off + (g.cz a).2) (hc : match cp with | some c => cap = c | none => off + cap * wd = (g.cz a).1) :
    VR g (.sl a off wd len cp) (.slice (some ⟨g.be a, o, none⟩) len cap)
 | m (a : Nat) (hd : g.dom a) : VR g (.m a) (.map (some (g.be a)))
 | yl (a : Nat) (hd : g.dom a) : VR g (.yl a) (.func (.yield (g.be a)) #[] #[])
 | fn (f : FuncId) (fst caps : List V) (a b : Array Value) (ha : a.size = fst.length) (hb : b.size = caps.length)
    (hr : ∀ (j : Nat) (x : V) (v : Value), fst[j]? = some x → a[j]? = some v → VR g x v) (hs : ∀ (j : Nat) (x : V) (v : Value), caps[j]? = some x → b[j]? = some v → VR g x v) :
    VR g (.fn f fst caps) (.func (.func f) a b)
 | ifc (t : TypeId) (x : V) (v : Value) (hr : VR g x v) : VR g (.ifc t x) (.iface t v)
 | ag (cs : List V) (a : Array Value) (hs : a.size = cs.length) (h1 : ∀ (j : Nat) (v : Value), a[j]? = some v → v.oneCell' = true)
    (hr : ∀ (j : Nat) (x : V) (v : Value), cs[j]? = some x → a[j]? = some v → VR g x v) : VR g (.ag cs) (.agg a)
 | tu (vs : List V) (a : Array Value) (hs : a.size = vs.length) (hr : ∀ (j : Nat) (x : V) (v : Value), vs[j]? = some x → a[j]? = some v → VR g x v) : VR g (.tu vs) (.tuple a)
 | und (v : Value) : VR g .und v
 | ts0 : VR g (.ts []) (.slice none 0 0)
 | tse (a : Addr) (cap : Nat) : VR g (.ts []) (.slice (some a) 0 cap)
 | ts (rows : List (List V)) (wd c o cap : Nat) (u : Nat → Nat → Value) (hw : ∀ (i : Nat) (row : List V), rows[i]? = some row → row.length = wd) (hcap : rows.length ≤ cap)
    (hc : ∀ (i j : Nat) (row : List V) (x : V), rows[i]? = some row → row[j]? = some x → g.fz c (o + i * wd + j) = some (u i j) ∧ (u i j).oneCell' = true)
    (hr : ∀ (i j : Nat) (row : List V) (x : V), rows[i]? = some row → row[j]? = some x → VR g x (u i j)) :
    VR g (.ts rows) (.slice (some ⟨c, o, none⟩) rows.length cap)
 | tp (row : List V) (col c o : Nat) (u : Nat → Value) (hc : ∀ (j : Nat) (x : V), row[j]? = some x → g.fz c (o + j) = some (u j) ∧ (u j).oneCell' = true)
    (hr : ∀ (j : Nat) (x : V), row[j]? = some x → VR g x (u j)) : VR g (.tp row col) (.pointer (some ⟨c, o + col, none⟩))
 | te (a : Addr) (cap : Nat) : VR g .te (.slice (some a) 0 cap)
def VRs (g : G) (xs : List V) (vs : Array Value) : Prop := vs.size = xs.length ∧ ∀ (j : Nat) (x : V) (v : Value), xs[j]? = some x → vs[j]? = some v → VR g x v
def ar4 : Option (Option Nat) → Option Code
 | none => none
 | some none => some .ret
 | some (some id) => some (.exit id)
def slOf : List (Nat × V) → Nat → V
 | [], _ => .und
 | (n, x) :: r, s => if s = n then x else slOf r s
class OkC where
 ok : Nat → Code → ACode → Prop
variable [iok : OkC]
def OR (w : World) (g : G) (a : Nat) : O → Prop
 | .no | .gone => True
 | .c gr cs => ∃ arr T, w.heap[g.be a]? = some (.cells arr T (0, 0)) ∧ arr.size = (g.cz a).1 + (g.cz a).2 ∧ cs.length ≤ (g.cz a).1 ∧ (gr = false → cs.length = (g.cz a).1) ∧
    ∀ (j : Nat) (x : V), cs[j]? = some x → ∃ v, arr[j + (g.cz a).2]? = some v ∧ v.oneCell' = true ∧ VR g x v
 | .m es clock => ∃ ents, w.heap[g.be a]? = some (.map ents clock) ∧ ents.size = es.length ∧
    ∀ (k : Nat) (x : V × V × Nat) (e : MapEntry), es[k]? = some x → ents[k]? = some e → VR g x.1 e.key ∧ VR g x.2.1 e.val ∧ e.born = x.2.2
 | .lp ps asg bd sl stt pnd => ∃ rc : Loop, w.heap[g.be a]? = some (.loop rc) ∧ rc.params = ps.toArray ∧ (∀ p, p ∈ ps → p < rc.tmps.size) ∧ OkC.ok rc.tmps.size rc.assign asg ∧ OkC.ok rc.tmps.size rc.body bd ∧ rc.state = stt ∧ rc.pending = ar4 pnd ∧
    ∀ s : Nat, VR g (slOf sl s) (rc.tmps.getD s undef)
abbrev Hp := Nat → O
structure HR (w : World) (g : G) (H : Hp) (nx : Nat) : Prop where
 ob : ∀ a, OR w g a (H a)
 dm : ∀ a, (H a).live = true → g.dom a
 inj : ∀ a b, (H a).live = true → (H b).live = true → g.be a = g.be b → a = b
 nx : ∀ a, g.dom a → a < nx
 lt : ∀ a, g.dom a → g.be a < w.heap.size
 fz : ∀ c o v, g.fz c o = some v → w.cell? ⟨c, o, none⟩ = some v ∧ ∀ a, (H a).live = true → g.be a ≠ c
structure St where
 sl : Nat → V
 h : Hp
 nx : Nat
 df : List (V × List V)
def SlR (g : G) (tmps : Array Value) (sl : Nat → V) : Prop := ∀ s : Nat, VR g (sl s) (tmps.getD s undef)
structure Le (g g' : G) : Prop where
 dom : ∀ a, g.dom a → g'.dom a ∧ g'.be a = g.be a ∧ g'.cz a = g.cz a
 fz : ∀ c o v, g.fz c o = some v → g'.fz c o = some v
structure Stp (w : World) (g : G) (H : Hp) (w' : World) (g' : G) (H' : Hp) (D : Nat → Prop) : Prop where
 le : Le g g'
 size : w.heap.size ≤ w'.heap.size
 keep : ∀ c, c < w.heap.size → (∀ a, (H a).live = true → g.be a ≠ c) → w'.heap[c]? = w.heap[c]?
 own : ∀ a, (H' a).live = true → w.heap.size ≤ g'.be a ∨ ∃ b, (H b).live = true ∧ g.be b = g'.be a
 dom : ∀ a, g'.dom a → g.dom a ∨ D a
 fzn : ∀ c o v, g'.fz c o = some v → g.fz c o = some v ∨ w.heap.size ≤ c ∨ ∃ b, (H b).live = true ∧ g.be b = c
 out : w'.output = w.output
 os : w'.os = w.os
theorem Le.refl (g : G) : Le g g := ⟨fun _ h => ⟨h, rfl, rfl⟩, fun _ _ _ h => h⟩
theorem Le.trans {g g1 g2 : G} (h : Le g g1) (h' : Le g1 g2) : Le g g2 :=
 ⟨fun a ha => ⟨(h'.dom a (h.dom a ha).1).1, (h'.dom a (h.dom a ha).1).2.1.trans (h.dom a ha).2.1, (h'.dom a (h.dom a ha).1).2.2.trans (h.dom a ha).2.2⟩, fun c o v hz => h'.fz c o v (h.fz c o v hz)⟩
theorem VR.mono {g g' : G} {x : V} {v : Value} (h : VR g x v) (hl : Le g g') : VR g' x v := by
 induction h with
 | b x => exact .b x
 | i k n => exact .i k n
 | s a => exact .s a
 | np => exact .np
 | ns => exact .ns
 | nm => exact .nm
 | nf => exact .nf
 | ni => exact .ni
 | p a off hd => obtain ⟨h1, h2, h3⟩ := hl.dom a hd; rw [← h2, ← h3]; exact .p a off h1
 | sl a off wd len cp cap o hd hle ho hc =>
   obtain ⟨h1, h2, h3⟩ := hl.dom a hd
   rw [← h2]
   exact .sl a off wd len cp cap o h1 hle (by rw [h3]; exact ho) (by rw [h3]; exact hc)
 | m a hd => obtain ⟨h1, h2, _⟩ := hl.dom a hd; rw [← h2]; exact .m a h1
 | yl a hd => obtain ⟨h1, h2, _⟩ := hl.dom a hd; rw [← h2]; exact .yl a h1
 | fn f fst caps a b ha hb hr hs ih1 ih2 => exact .fn f fst caps a b ha hb ih1 ih2
 | ifc t x v hr ih => exact .ifc t x v ih
 | ag cs a hs h1 hr ih => exact .ag cs a hs h1 ih
 | tu vs a hs hr ih => exact .tu vs a hs ih
 | und v => exact .und v
 | ts0 => exact .ts0
 | tse a cap => exact .tse a cap
 | ts rows wd c o cap u hw hcap hc hr ih => exact .ts rows wd c o cap u hw hcap (fun i j row x e1 e2 => ⟨hl.fz _ _ _ (hc i j row x e1 e2).1, (hc i j row x e1 e2).2⟩) ih
 | tp row col c o u hc hr ih => exact .tp row col c o u (fun j x e1 => ⟨hl.fz _ _ _ (hc j x e1).1, (hc j x e1).2⟩) ih
 | te a cap => exact .te a cap
theorem VRs.mono {g g' : G} {xs : List V} {vs : Array Value} (h : VRs g xs vs) (hl : Le g g') : VRs g' xs vs := ⟨h.1, fun j x v e1 e2 => (h.2 j x v e1 e2).mono hl⟩
theorem SlR.mono {g g' : G} {tmps : Array Value} {sl : Nat → V} (h : SlR g tmps sl) (hl : Le g g') : SlR g' tmps sl := fun s => (h s).mono hl
theorem OR.mono {w w' : World} {g g' : G} {a : Nat} {o : O} (h : OR w g a o) (hl : Le g g') (hd : o.live = true → g.dom a) (hk : o.live = true → w'.heap[g.be a]? = w.heap[g.be a]?) : OR w' g' a o := by
 cases o with
 | no => trivial
 | gone => trivial
 | c gr cs =>
   obtain ⟨h1, h2, h3⟩ := hl.dom a (hd rfl)
   obtain ⟨arr, T, q1, q2, q3, q4, q5⟩ := h
   refine ⟨arr, T, by rw [h2, hk rfl]; exact q1, by rw [h3]; exact q2, by rw [h3]; exact q3, by rw [h3]; exact q4, fun j x e => ?_⟩
   obtain ⟨v, r1, r2, r3⟩ := q5 j x e
   exact ⟨v, by rw [h3]; exact r1, r2, r3.mono hl⟩
 | m es clock =>
   obtain ⟨h1, h2, h3⟩ := hl.dom a (hd rfl)
   obtain ⟨ents, q1, q2, q3⟩ := h
   refine ⟨ents, by rw [h2, hk rfl]; exact q1, q2, fun k x e e1 e2 => ?_⟩
   obtain ⟨r1, r2, r3⟩ := q3 k x e e1 e2
   exact ⟨r1.mono hl, r2.mono hl, r3⟩
 | lp ps asg bd sl stt pnd =>
   obtain ⟨h1, h2, h3⟩ := hl.dom a (hd rfl)
   obtain ⟨rc, q1, q2, q3, q4, q5, q6, q7, q8⟩ := h
   exact ⟨rc, by rw [h2, hk rfl]; exact q1, q2, q3, q4, q5, q6, q7, fun s => (q8 s).mono hl⟩
theorem Stp.refl (w : World) (g : G) (H : Hp) (D : Nat → Prop) : Stp w g H w g H D :=
 ⟨Le.refl g, Nat.le_refl _, fun _ _ _ => rfl, fun a ha => .inr ⟨a, ha, rfl⟩, fun _ h => .inl h, fun _ _ _ h => .inl h, rfl, rfl⟩
theorem Stp.mono {w w' : World} {g g' : G} {H H' : Hp} {D D' : Nat → Prop} (s : Stp w g H w' g' H' D) (h : ∀ a, D a → D' a) : Stp w g H w' g' H' D' :=
 ⟨s.le, s.size, s.keep, s.own, fun a ha => (s.dom a ha).imp id (h a), s.fzn, s.out, s.os⟩
theorem Stp.trans {w w1 w2 : World} {g g1 g2 : G} {H H1 H2 : Hp} {D : Nat → Prop} (s : Stp w g H w1 g1 H1 D) (s' : Stp w1 g1 H1 w2 g2 H2 D) : Stp w g H w2 g2 H2 D := by
 refine ⟨s.le.trans s'.le, Nat.le_trans s.size s'.size, fun c hc hno => ?_, fun a ha => ?_, fun a ha => ?_, fun c o v hz => ?_, s'.out.trans s.out, s'.os.trans s.os⟩
 ·have e1 := s.keep c hc hno
  rw [← e1]
  refine s'.keep c (Nat.lt_of_lt_of_le hc s.size) (fun a ha e => ?_)
  rcases s.own a ha with h | ⟨b, hb, e2⟩
  ·omega
  ·exact hno b hb (e2.trans e)
 ·rcases s'.own a ha with h | ⟨b, hb, e⟩
  ·exact .inl (Nat.le_trans s.size h)
  ·rcases s.own b hb with h | ⟨b', hb', e'⟩
   ·exact .inl (by omega)
   ·exact .inr ⟨b', hb', e'.trans e⟩
 ·rcases s'.dom a ha with h | h
  ·exact s.dom a h
  ·exact .inr h
 ·rcases s'.fzn c o v hz with h | h | ⟨b, hb, e⟩
  ·exact s.fzn c o v h
  ·exact .inr (.inl (Nat.le_trans s.size h))
  ·rcases s.own b hb with h | ⟨b', hb', e'⟩
   ·exact .inr (.inl (by omega))
   ·exact .inr (.inr ⟨b', hb', e'.trans e⟩)
end Go.B
