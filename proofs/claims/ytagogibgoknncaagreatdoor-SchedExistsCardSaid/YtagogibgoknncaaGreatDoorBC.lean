/-
  The check that an abstract operation is a translation of the model's; operands and the first expressions have the values that the abstract evaluator gives them. Program-independent.
-/
import Derived.Test.YtagogibgoknncaaGreatDoorBB
import Derived.Laws.Strings
import Derived.Laws.CopyRow
import Derived.Laws.Cells
import Derived.ChangeKeysEq
set_option linter.unusedSectionVars false
set_option linter.unusedVariables false
set_option linter.unusedSimpArgs false
namespace Go.B
variable [iok : OkC]
def BinO.to : BinO → BinOp
 | .add => .add | .sub => .sub | .mul => .mul | .quo => .quo | .rem => .rem | .and => .and | .or => .or | .xor => .xor
 | .eql => .eql | .neq => .neq | .lss => .lss | .leq => .leq | .gtr => .gtr | .geq => .geq
def cst : Value → V → Bool
 | .bool b, .b x => b == x
 | .int k n, .i k' m => k == k' && n == m
 | .string a, .s l n => a.data.toList.length == l && enc a.data.toList == n
 | .pointer none, .np => true
 | .slice none 0 0, .ns => true
 | .map none, .nm => true
 | .nilFunc, .nf => true
 | .nilIface, .ni => true
 | _, _ => false
def csts : List Value → List V → Bool
 | [], [] => true
 | v :: vs, x :: xs => cst v x && csts vs xs
 | _, _ => false
def opd : Operand → AO → Bool
 | .tmp t, .s n => t == n
 | .const v, .k x => cst v x
 | .func f, .k (.fn f' [] []) => f == f'
 | _, _ => false
def ba5 : List Operand → List AO → Bool
 | [], [] => true
 | o :: os, x :: xs => opd o x && ba5 os xs
 | _, _ => false
def opdo : Option Operand → Option AO → Bool
 | none, none => true
 | some o, some x => opd o x
 | _, _ => false
def szT (P : Program) (t : TypeId) : Option Nat := (P.info? t).map (·.size)
def aggT (P : Program) (t : TypeId) : Option Bool := (P.underlying t).map fun d => match d with | .struct _ | .array _ _ => true | _ => false
def shp (P : Program) (t : TypeId) (n : Nat) (agg : Bool) : Bool := szT P t == some n && aggT P t == some agg && (agg || n == 1)
def fieldOk (P : Program) (t f : Nat) (off : Nat) : Bool :=
 match P.underlying t with
 | some (.struct fs) => match fs[f]? with
   | some x => x.offset == off && (match szT P x.type with | some (_ + 1) => true | _ => false)
   | none => false
 | _ => false
def fieldIs (P : Program) (t f : Nat) (off n : Nat) (agg : Bool) : Bool :=
 match P.underlying t with
 | some (.struct fs) => match fs[f]? with
   | some x => x.offset == off && shp P x.type n agg
   | none => false
 | _ => false
def aj1 (P : Program) (t wd : Nat) : Bool :=
 match P.underlying t with
 | some (.slice e) => szT P e == some wd
 | _ => false
def isStr (P : Program) (t : TypeId) : Bool := match P.underlying t with | some .string => true | _ => false
def ad9 (P : Program) (t : TypeId) (zero : List V) : Bool :=
 match (P.info? t).bind (·.zero) with
 | some z => csts z.cells.toList zero
 | none => false
def ap0 (P : Program) (fs : Array Field) : List (Nat × Operand) → List (Nat × Nat × AO) → Bool
 | [], [] => true
 | (i, a) :: r, (off, size, x) :: r' => (match fs[i]? with | some f => f.offset == off && szT P f.type == some size | none => false) && opd a x && ap0 P fs r r'
 | _, _ => false
def ap1 (n : Nat) : List (Nat × Operand) → List (Nat × Nat × AO) → Bool
 | [], [] => true
 | (i, a) :: r, (off, size, x) :: r' => off == i * n && size == n && opd a x && ap1 n r r'
 | _, _ => false
def arrAt (P : Program) (t : TypeId) (i : Operand) (off : Nat) : Bool :=
 match P.underlying t, i with
 | some (.array len e), .const (.int _ n) => decide (0 ≤ n) && decide (n < len) && (match szT P e with | some k => off == n.toNat * k | none => false)
 | _, _ => false
def al7 (P : Program) (t : TypeId) (kind : Nat) : Bool :=
 match P.underlying t, kind with
 | some (.slice _), 0 | some (.pointer _), 1 | some (.map _ _), 2 | some (.func _ _ _), 3 | some (.interface _), 4 => true
 | _, _ => false
def ad7 (o : Operand) (kind : Nat) : Bool :=
 match o, kind with
 | .const (.slice none 0 0), 0 | .const (.pointer none), 1 | .const (.map none), 2 | .const .nilFunc, 3 | .const .nilIface, 4 => true
 | _, _ => false
def aa2 (P : Program) (t : TypeId) (k : Nat) : Bool :=
 match P.underlying t, k with
 | some .bool, 0 | some (.int _), 1 | some .string, 2 => true
 | _, _ => false
def aa0 (P : Program) : List Field → Nat → List Nat → Bool
 | [], _, [] => true
 | f :: fs, i, k :: ks => f.offset == i && f.name != "_" && aa2 P f.type k && aa0 P fs (i + 1) ks
 | _, _, _ => false
def structEq (P : Program) (t : TypeId) (kinds : List Nat) : Bool :=
 match P.underlying t with
 | some (.struct fs) => aa0 P fs.toList 0 kinds && !P.stoodInHeld t && !P.eqGuardType P.depth t
 | _ => false
def noIf (P : Program) (t : TypeId) : Bool := match P.underlying t with | some (.interface _) | none => false | _ => true
def kbIs (P : Program) (k : KB) (t : TypeId) : Bool :=
 match k, P.underlying t with
 | .b, some .bool => true
 | .i q, some (.int q') => q == q'
 | .s, some .string => true
 | _, _ => false
def aw6 (P : Program) : List KB → List Field → Nat → Bool
 | [], [], _ => true
 | k :: ks, f :: fs, i => f.offset == i && f.name != "_" && kbIs P k f.type && aw6 P ks fs (i + 1)
 | _, _, _ => false
def ap7 (P : Program) (kt : KT) (t : TypeId) : Bool :=
 match kt with
 | .k k => kbIs P k t
 | .st ks => match P.underlying t with
   | some (.struct fs) => aw6 P ks fs.toList 0 && !P.stoodInHeld t
   | _ => false
def zeroSh (P : Program) (t : TypeId) (agg : Bool) : Bool :=
 match (P.info? t).bind (·.zero) with
 | some (.agg _) => agg
 | some (.tuple _) | none => false
 | some _ => !agg
def mapIs (P : Program) (t : TypeId) (kt : KT) (zero : List V) (agg : Bool) : Bool :=
 match P.underlying t with
 | some (.map key elem) => ap7 P kt key && ad9 P elem zero && zeroSh P elem agg
 | _ => false
def mapKey (P : Program) (t : TypeId) (kt : KT) : Bool :=
 match P.underlying t with
 | some (.map key _) => ap7 P kt key
 | _ => false
def chkX (P : Program) : Op → AX → Bool
 | .move a, .mov x => opd a x
 | .assign a, .mov x => opd a x
 | .pick c a b, .pick c' a' b' => opd c c' && opd a a' && opd b b'
 | .load T a, .ld x n agg => opd a x && shp P T n agg
 | .fieldAddr T a f, .fad x off => opd a x && fieldOk P T f off
 | .indexAddr T a i, .fad x off => opd a x && arrAt P T i off
 | .indexAddr T a i, .iad x j wd => opd a x && opd i j && aj1 P T wd
 | .nilCheck a, .nck x => opd a x
 | .index T a i, .aix x j len n agg => opd a x && opd i j && (match P.underlying T with | some (.array l e) => l == len && shp P e n agg | _ => false)
 | .index T a i, .six x j => opd a x && opd i j && isStr P T
 | .typeAssert a _ T false, .tas t x => T == t && opd a x && noIf P T
 | .binOp op _ a b _, .bin op' x y => op == op'.to && opd a x && opd b y
 | .binOp op T a b _, .beq ng x y => op == (if ng then .neq else .eql) && aa2 P T 0 && opd a x && opd b y
 | .binOp op T a b _, .nleq kind ng x => op == (if ng then .neq else .eql) && al7 P T kind && ((opd a x && ad7 b kind) || (opd b x && ad7 a kind))
 | .binOp op T a b _, .seq kinds ng x y => op == (if ng then .neq else .eql) && structEq P T kinds && opd a x && opd b y
 | .unOp op _ a, .not x => op == .not && opd a x
 | .unOp op _ a, .neg x => op == .neg && opd a x
 | .binOp op _ a b _, .shl x y => op == .shl && opd a x && opd b y
 | .binOp op _ a b _, .shr x y => op == .shr && opd a x && opd b y
 | .call { callee := .builtin .len, args, argTypes }, .len str x =>
   (match args.toList, argTypes.toList with
    | [a], [T] => opd a x && (match P.underlying T, str with | some .string, true => true | some (.slice _), false => true | _, _ => false)
    | _, _ => false)
 | .call { callee := .builtin .cap, args, argTypes }, .cap x =>
   (match args.toList, argTypes.toList with
    | [a], [T] => opd a x && (match P.underlying T with | some (.slice _) => true | _ => false)
    | _, _ => false)
 | .call { callee := .builtin .min, args, .. }, .mn x y => ba5 args.toList [x, y]
 | .call { callee := .builtin .max, args, .. }, .mx x y => ba5 args.toList [x, y]
 | .field T a f, .fld x off n agg => opd a x && fieldIs P T f off n agg
 | .build T parts, .bld zero parts' =>
   (match P.underlying T with
    | some (.struct fs) => ad9 P T zero && fs.toList.all (fun f => (szT P f.type).isSome) && ap0 P fs parts.toList parts'
    | some (.array _ e) => (match szT P e with | some n => ad9 P T zero && ap1 n parts.toList parts' | none => false)
    | _ => false)
 | .slice T a lo hi mx, .ssl x lo' hi' mx' wd => opd a x && opdo lo lo' && opdo hi hi' && opdo mx mx' && aj1 P T wd && (mx.isNone || hi.isSome)
 | .slice T a lo hi none, .str x lo' hi' => opd a x && opdo lo lo' && opdo hi hi' && isStr P T
 | .slice T a lo hi none, .ssx x lo' hi' wd => opd a x && opdo lo (some lo') && opdo hi (some hi') && aj1 P T wd
 | .convert S D a, .cnv k x => opd a x && (P.underlying S).isSome && (match P.underlying D with | some (.int k') => k == k' | _ => false)
 | .convert S D a, .cvs x => opd a x && (P.underlying S).isSome && isStr P D
 | .makeFunc (.func f) first caps, .mkf f' first' caps' => f == f' && ba5 first.toList first' && ba5 caps.toList caps'
 | .makeInterface T a, .mki t x => T == t && opd a x && noIf P T
 | .extract a i, .ext x j => i == j && opd a x
 | .lookup T m k ok, .lkp m' k' kt zero agg ok' => ok == ok' && opd m m' && opd k k' && mapIs P T kt zero agg
 | _, _ => false
def Val (P : Program) (w : World) (g : G) (o : Oper) (a : Act) (x : V) : Prop :=
 ∃ v, (execOp a.eval o).run P w = .ok (.value v) w ∧ VR g x v
section
variable {P : Program} {w : World} {g : G} {H : Hp} {nx : Nat} {tmps : Array Value} {sl : Nat → V} {ds : List Deferred}
theorem cst_sound {v : Value} {x : V} (h : cst v x = true) : VR g x v := by
 unfold cst at h
 split at h
 ·simp at h; subst h; exact .b _
 ·simp at h; obtain ⟨rfl, rfl⟩ := h; exact .i _ _
 ·simp only [Bool.and_eq_true, beq_iff_eq] at h; obtain ⟨rfl, rfl⟩ := h; exact .s _
 ·exact .np
 ·exact .ns
 ·exact .nm
 ·exact .nf
 ·exact .ni
 ·cases h
theorem e9 (h : SlR g tmps sl) {o : Operand} {x : AO} (hc : opd o x = true) : VR g (evO sl x) (Act.eval { tmps, defers := ds } o) := by
 unfold opd at hc
 split at hc
 ·simp at hc; subst hc; exact h _
 ·exact cst_sound hc
 ·simp at hc; subst hc
  exact .fn _ [] [] #[] #[] rfl rfl (fun j x v e1 _ => by simp at e1) (fun j x v e1 _ => by simp at e1)
 ·cases hc
theorem vr_b {b : Bool} {v : Value} (h : VR g (.b b) v) : v = .bool b := by cases h; rfl
theorem ay5 {k : IntKind} {n : Int} {v : Value} (h : VR g (.i k n) v) : v = .int k n := by cases h; rfl
theorem vr_s {l n : Nat} {v : Value} (h : VR g (.s l n) v) : ∃ a : ByteArray, a.data.toList.length = l ∧ enc a.data.toList = n ∧ v = .string a := by cases h with | s a => exact ⟨a, rfl, rfl, rfl⟩
theorem vr_ag {cs : List V} {v : Value} (h : VR g (.ag cs) v) : ∃ a, v = .agg a ∧ a.size = cs.length ∧ (∀ (j : Nat) (v : Value), a[j]? = some v → v.oneCell' = true) ∧ ∀ (j : Nat) (x : V) (v : Value), cs[j]? = some x → a[j]? = some v → VR g x v := by
 cases h with | ag cs a hs h1 hr => exact ⟨a, rfl, hs, h1, hr⟩
theorem f0 {t : TypeId} {d : TypeDesc} (h : P.underlying t = some d) (w : World) : (underlying t).run P w = .ok d w := by simp [underlying, h]
theorem t7 {t : TypeId} {n : Nat} (h : szT P t = some n) (w : World) : (sizeOf t).run P w = .ok n w := by
 unfold szT at h
 cases hi : P.info? t with
 | none => rw [hi] at h; cases h
 | some i => rw [hi] at h; cases h; simp [sizeOf, typeInfo, hi]
theorem at6 {t : TypeId} {b : Bool} (h : aggT P t = some b) (w : World) : (isAgg t).run P w = .ok b w := by
 unfold aggT at h
 cases hi : P.underlying t with
 | none => rw [hi] at h; cases h
 | some d => rw [hi] at h; cases h; simp only [isAgg, Sem.run_bind, f0 hi, Result.andThen_ok]; cases d <;> rfl
theorem shp_sz {t n : Nat} {agg : Bool} (h : shp P t n agg = true) : szT P t = some n ∧ aggT P t = some agg ∧ (agg = false → n = 1) := by
 simp [shp] at h
 exact ⟨h.1.1, h.1.2, fun e => by simpa [e] using h.2⟩
theorem aa4 (c o n : Nat) : (⟨c, o, none⟩ : Addr).add n = ⟨c, o + n, none⟩ := by unfold Addr.add; split <;> simp_all
theorem isStr_eq {t : TypeId} (h : isStr P t = true) : P.underlying t = some .string := by
 unfold isStr at h
 split at h
 ·assumption
 ·cases h
theorem ak4 {c o : Nat} {arr : Array Value} {T : TypeId} {fz : Nat × Nat} (h : w.heap[c]? = some (.cells arr T fz)) : w.cell? ⟨c, o, none⟩ = arr[o]? := by
 simp [World.cell?, h]
theorem az7 {T n : Nat} {agg : Bool} (h : shp P T n agg = true) (c o : Nat) (vs : List Value) (hn : vs.length = n) (hv : ∀ j v, vs[j]? = some v → w.cell? ⟨c, o + j, none⟩ = some v) :
  (Instr.loadAt T (.pointer (some ⟨c, o, none⟩))).run P w = .ok (if agg then .agg vs.toArray else vs.getD 0 undef) w := by
 obtain ⟨h1, h2, h3⟩ := shp_sz h
 simp only [Instr.loadAt, Instr.sureAddr, pure_bind, loadVar, Sem.run_bind, at6 h2, Result.andThen_ok]
 cases agg with
 | true =>
   simp only [if_true, Sem.run_bind, t7 h1, Result.andThen_ok, Sem.run_pure]
   subst hn
   rw [run_loadCells_list w _ vs (fun j v e => by rw [aa4]; exact hv j v e)]
   simp
 | false =>
   have hn1 := h3 rfl
   subst hn1
   match vs, hn with
   | [v], _ =>
     have := hv 0 v rfl
     simp only [Nat.add_zero] at this
     simp [this]
theorem ofCells {agg : Bool} {l : List V} {vs : List Value} {e : V} (hp : pack agg l = some e) (hl : vs.length = l.length) (hn : agg = false → vs.length = 1)
  (hr : ∀ (j : Nat) x v, l[j]? = some x → vs[j]? = some v → v.oneCell' = true ∧ VR g x v) : VR g e (if agg then .agg vs.toArray else vs.getD 0 undef) := by
 unfold pack at hp
 split at hp
 ·cases hp
  refine .ag l _ (by simp [hl]) (fun j v e => ?_) (fun j x v e1 e2 => (hr j x v e1 (by simpa using e2)).2)
  have e' : vs[j]? = some v := by simpa using e
  have hj : j < l.length := by rw [← hl]; exact (List.getElem?_eq_some_iff.1 e').1
  exact (hr j l[j] v (List.getElem?_eq_getElem hj) e').1
 ·split at hp
  ·rename_i x
   cases hp
   match vs, hl with
   | [v], _ => exact (hr 0 _ v rfl rfl).2
  ·cases hp
theorem map_get {α β : Type} {f : α → β} {l : List α} {j : Nat} {y : β} (h : (l.map f)[j]? = some y) : ∃ x, l[j]? = some x ∧ f x = y := by
 rw [List.getElem?_map] at h
 cases hx : l[j]? with
 | none => rw [hx] at h; cases h
 | some x => rw [hx] at h; exact ⟨x, rfl, by simpa using h⟩
theorem p9 {α : Type} {l : List α} {a n j : Nat} {x : α} (h : ((l.drop a).take n)[j]? = some x) : l[a + j]? = some x ∧ j < n := by
 rw [List.getElem?_take] at h
 split at h
 ·rename_i hj; rw [List.getElem?_drop] at h; exact ⟨h, hj⟩
 ·cases h
theorem ai4 {α : Type} {l : List α} {i : Nat} {x : α} (h : l[i]? = some x) : i < l.length := (List.getElem?_eq_some_iff.1 h).1
theorem av2 (c o n : Nat) (h : ∀ j, j < n → ∃ v, w.cell? ⟨c, o + j, none⟩ = some v) : ∃ vs : List Value, vs.length = n ∧ ∀ j v, vs[j]? = some v → w.cell? ⟨c, o + j, none⟩ = some v := by
 refine ⟨(List.range n).map fun j => (w.cell? ⟨c, o + j, none⟩).getD undef, by simp, fun j v e => ?_⟩
 obtain ⟨k, h1, h2⟩ := map_get e
 have hk : k = j ∧ j < n := by
  rcases Nat.lt_or_ge j n with hj | hj
  ·simp [hj] at h1; exact ⟨h1.symm, hj⟩
  ·simp [hj] at h1
 obtain ⟨rfl, hj⟩ := hk
 obtain ⟨u, hu⟩ := h k hj
 rw [hu] at h2 ⊢
 simp at h2; rw [h2]
theorem val_mov (h : SlR g tmps sl) {o : Oper} {a : Operand} {x : AO} (ho : o.op = .move a ∨ o.op = .assign a) (hc : opd a x = true) : Val P w g o { tmps, defers := ds } (evO sl x) := by
 refine ⟨_, ?_, e9 (ds := ds) h hc⟩
 rcases ho with ho | ho <;> simp [execOp, ho]
theorem val_pick (h : SlR g tmps sl) {o : Oper} {c a b : Operand} {c' a' b' : AO} {e : V} (ho : o.op = .pick c a b) (h1 : opd c c' = true) (h2 : opd a a' = true) (h3 : opd b b' = true)
  (hx : evX sl H (.pick c' a' b') = some e) : Val P w g o { tmps, defers := ds } e := by
 simp only [evX] at hx
 split at hx
 ·rename_i x e1
  have hv := vr_b (e1 ▸ e9 (ds := ds) h h1)
  cases hx
  refine ⟨if x then Act.eval { tmps, defers := ds } a else Act.eval { tmps, defers := ds } b, ?_, ?_⟩
  ·simp only [execOp, ho, hv, asBool, Sem.run_bind, Sem.run_pure, Result.andThen_ok]
  ·cases x
   ·exact e9 (ds := ds) h h3
   ·exact e9 (ds := ds) h h2
 ·cases hx
theorem OR.cells {a : Nat} {gr : Bool} {cs : List V} (h : OR w g a (.c gr cs)) (off n : Nat) (hle : off + n ≤ cs.length) :
  ∃ vs : List Value, vs.length = n ∧ (∀ j v, vs[j]? = some v → w.cell? ⟨g.be a, off + (g.cz a).2 + j, none⟩ = some v) ∧ ∀ (j : Nat) (x : V) (v : Value), ((cs.drop off).take n)[j]? = some x → vs[j]? = some v → v.oneCell' = true ∧ VR g x v := by
 obtain ⟨arr, T, q1, q2, q3, q4, q5⟩ := h
 have hex : ∀ j, j < n → ∃ v, w.cell? ⟨g.be a, off + (g.cz a).2 + j, none⟩ = some v := by
  intro j hj
  obtain ⟨v, c1, _⟩ := q5 (off + j) _ (List.getElem?_eq_getElem (show off + j < cs.length by omega))
  exact ⟨v, by rw [ak4 q1, Nat.add_right_comm]; exact c1⟩
 obtain ⟨vs, hl, hvs⟩ := av2 (g.be a) (off + (g.cz a).2) n hex
 refine ⟨vs, hl, hvs, fun j x v k1 k2 => ?_⟩
 obtain ⟨z1, z2⟩ := p9 k1
 obtain ⟨v', c1, c2, c3⟩ := q5 (off + j) x z1
 have := hvs j v k2
 rw [ak4 q1, Nat.add_right_comm, c1] at this
 cases this
 exact ⟨c2, c3⟩
theorem val_ld (hh : HR w g H nx) (h : SlR g tmps sl) {o : Oper} {T : TypeId} {a : Operand} {x : AO} {n : Nat} {agg : Bool} {e : V} (ho : o.op = .load T a)
  (hc : opd a x = true) (hsh : shp P T n agg = true) (hx : evX sl H (.ld x n agg) = some e) : Val P w g o { tmps, defers := ds } e := by
 simp only [evX] at hx
 have hv := e9 (ds := ds) h hc
 generalize hev : Act.eval { tmps, defers := ds } a = va at hv
 split at hx
 ·rename_i row col hr
  rw [hr] at hv
  split at hx
  ·rename_i hle
   cases hv with
   | tp row col c oo u hcc hrr =>
     have hex : ∀ j, j < n → ∃ v, w.cell? ⟨c, oo + col + j, none⟩ = some v := by
      intro j hj
      have : row[col + j]? = some row[col + j] := List.getElem?_eq_getElem (by omega)
      exact ⟨_, by rw [Nat.add_assoc]; exact (hh.fz _ _ _ (hcc _ _ this).1).1⟩
     obtain ⟨vs, hl, hvs⟩ := av2 c (oo + col) n hex
     refine ⟨_, ?_, ofCells (g := g) hx (vs := vs) ?_ (fun ha => ?_) ?_⟩
     ·simp only [execOp, ho, hev, Sem.run_bind, az7 hsh c (oo + col) vs hl hvs, Result.andThen_ok, Sem.run_pure]
     ·simp [hl]; omega
     ·rw [hl]; exact (shp_sz hsh).2.2 ha
     ·intro j y v k1 k2
      obtain ⟨q1, q2⟩ := p9 k1
      obtain ⟨r1, r2⟩ := hcc _ _ q1
      have := hvs j v k2
      rw [Nat.add_assoc, (hh.fz _ _ _ r1).1] at this
      cases this
      exact ⟨r2, hrr _ _ q1⟩
  ·cases hx
 ·rename_i b off hr
  rw [hr] at hv
  split at hx
  ·rename_i gr cs hb
   split at hx
   ·rename_i hle
    have hob := hh.ob b
    rw [hb] at hob
    cases hv with
    | p b off hd =>
      obtain ⟨vs, hl, hvs, hrs⟩ := hob.cells off n hle
      refine ⟨_, ?_, ofCells (g := g) hx (vs := vs) ?_ (fun ha => ?_) hrs⟩
      ·simp only [execOp, ho, hev, Sem.run_bind, az7 hsh _ _ vs hl hvs, Result.andThen_ok, Sem.run_pure]
      ·simp [hl]; omega
      ·rw [hl]; exact (shp_sz hsh).2.2 ha
   ·cases hx
  ·cases hx
 ·cases hx
theorem vr_fad {x : V} {v : Value} {off : Nat} {e : V} (hv : VR g x v) (hx : fadV x off = some e) :
  ∃ c o, v = .pointer (some ⟨c, o, none⟩) ∧ VR g e (.pointer (some ⟨c, o + off, none⟩)) := by
 cases hv <;> simp only [fadV, reduceCtorEq] at hx
 case p a o hd => cases hx; exact ⟨_, _, rfl, by rw [Nat.add_right_comm]; exact .p a _ hd⟩
 case tp row col c o u hc hr => cases hx; exact ⟨_, _, rfl, by rw [Nat.add_assoc]; exact .tp row _ c o u hc hr⟩
theorem val_fad (h : SlR g tmps sl) {o : Oper} {T f : Nat} {a : Operand} {x : AO} {off : Nat} {e : V} (ho : o.op = .fieldAddr T a f) (hc : opd a x = true) (hf : fieldOk P T f off = true)
  (hx : evX sl H (.fad x off) = some e) : Val P w g o { tmps, defers := ds } e := by
 unfold fieldOk at hf
 split at hf
 ·rename_i fs hu
  split at hf
  ·rename_i fd hfd
   simp at hf
   obtain ⟨rfl, hs⟩ := hf
   split at hs
   ·rename_i k hk
    obtain ⟨c, oo, hev, he⟩ := vr_fad (e9 (ds := ds) h hc) (show fadV (evO sl x) _ = some e from hx)
    refine ⟨_, ?_, he⟩
    simp [execOp, ho, hev, Instr.fieldAt, f0 hu, hfd, Instr.sureAddr, fieldPlace, t7 hk, aa4]
   ·cases hs
  ·cases hf
 ·cases hf
theorem val_arr (h : SlR g tmps sl) {o : Oper} {T : Nat} {a i : Operand} {x : AO} {off : Nat} {e : V} (ho : o.op = .indexAddr T a i) (hc : opd a x = true) (hf : arrAt P T i off = true)
  (hx : evX sl H (.fad x off) = some e) : Val P w g o { tmps, defers := ds } e := by
 unfold arrAt at hf
 split at hf
 ·rename_i len el k n hu
  simp only [Bool.and_eq_true, decide_eq_true_eq] at hf
  obtain ⟨⟨h0, h1⟩, h2⟩ := hf
  split at h2
  ·rename_i wd hs
   have h2 : off = n.toNat * wd := by simpa using h2
   subst h2
   have hi : Act.eval { tmps, defers := ds } (.const (.int k n)) = .int k n := rfl
   obtain ⟨c, oo, hev, he⟩ := vr_fad (e9 (ds := ds) h hc) (show fadV (evO sl x) _ = some e from hx)
   refine ⟨_, ?_, he⟩
   simp [execOp, ho, hev, hi, Instr.indexAt, asIntOf, f0 hu, t7 hs, aa4, h0, h1, Instr.sureAddr]
  ·cases h2
 ·cases hf
theorem val_iad (h : SlR g tmps sl) {o : Oper} {T : Nat} {a i : Operand} {x j : AO} {wd : Nat} {e : V} (ho : o.op = .indexAddr T a i) (hc : opd a x = true) (hci : opd i j = true)
  (hs : aj1 P T wd = true) (hx : evX sl H (.iad x j wd) = some e) : Val P w g o { tmps, defers := ds } e := by
 unfold aj1 at hs
 split at hs
 ·rename_i el hu
  simp at hs
  have run : ∀ (k : IntKind) (n : Int) (c oo len cap : Nat), 0 ≤ n → n < len →
    (Instr.indexAt T (.slice (some ⟨c, oo, none⟩) len cap) (.int k n)).run P w = .ok (.pointer (some ⟨c, oo + n.toNat * wd, none⟩)) w := by
   intro k n c oo len cap h0 h1
   simp [Instr.indexAt, asIntOf, f0 hu, t7 hs, aa4, h0, h1]
  simp only [evX] at hx
  have hv := e9 (ds := ds) h hc
  have hvi := e9 (ds := ds) h hci
  generalize hev : Act.eval { tmps, defers := ds } a = va at hv
  split at hx
  ·rename_i rows k n hr hn
   rw [hr] at hv
   have hk := ay5 (hn ▸ hvi)
   split at hx
   ·rename_i h0
    split at hx
    ·rename_i row hrow
     split at hx
     ·rename_i hw
      cases hx
      have hlt := ai4 hrow
      cases hv with
      | ts0 => simp at hrow
      | tse a cap => simp at hrow
      | ts rows wd' c oo cap u hw' hcap hcc hrr =>
        have : wd' = wd := by rw [← hw' _ _ hrow]; exact hw
        subst this
        refine ⟨_, by simp only [execOp, ho, hev, hk, Sem.run_bind, run k n c oo rows.length cap h0 (by omega), Result.andThen_ok, Sem.run_pure]; rfl, ?_⟩
        exact .tp row 0 c (oo + n.toNat * wd') (u n.toNat) (fun j x e1 => hcc _ _ _ _ hrow e1) (fun j x e1 => hrr _ _ _ _ hrow e1)
     ·cases hx
    ·cases hx
   ·cases hx
  ·rename_i b off wd' len cp k n hr hn
   rw [hr] at hv
   have hk := ay5 (hn ▸ hvi)
   split at hx
   ·rename_i hcond
    obtain ⟨h0, h1⟩ := hcond
    cases hx
    cases hv with
    | sl b off wd' len cp cap oo hd hl hoo hcp =>
      have := hoo (by omega)
      subst this
      exact ⟨.pointer (some ⟨g.be b, off + (g.cz b).2 + n.toNat * wd, none⟩), by simp only [execOp, ho, hev, hk, Sem.run_bind, run k n _ _ len cap h0 h1, Result.andThen_ok, Sem.run_pure], by rw [Nat.add_right_comm]; exact .p b _ hd⟩
   ·cases hx
  ·cases hx
 ·cases hs
end
end Go.B
