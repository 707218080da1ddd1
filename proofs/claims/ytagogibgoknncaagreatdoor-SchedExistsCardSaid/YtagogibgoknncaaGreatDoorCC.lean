/-
  A fast runner of abstract codes: operations. Program-independent.
-/
import Derived.Test.YtagogibgoknncaaGreatDoorCB
set_option linter.unusedVariables false
set_option linter.unusedSimpArgs false
set_option linter.unusedSectionVars false
namespace Go.B
variable [iok : OkC]
abbrev KV := Vn → T → Nat → Ans
abbrev AFn := FuncId → List S → T → Nat → Option Out
abbrev RFn := Nat → List S → T → Nat → Option Out
def stO (e : Vn) (t : T) (nx : Nat) : St := { sl := e.sl, h := t.h, nx := nx, df := [] }
def KS (k : KV) (L : Out) (s : St) : Prop := ∃ e t nx, s = stO e t nx ∧ k e t nx = some L
def AFOk (P : Program) (a : AFn) : Prop := ∀ f xs t nx r t' nx', a f xs t nx = some (r, t', nx') → ACalls P f (xs.map S.v) t.h nx r.v t'.h nx'
def RFOk (P : Program) (y : RFn) : Prop := ∀ i xs t nx r t' nx', y i xs t nx = some (r, t', nx') → RCalls P i (xs.map S.v) t.h nx r.v t'.h nx'
def be9 (P : Program) (np : FuncId → Bool) : Prop := ∀ f, np f = true → DNop P f
noncomputable def rowsK (wd : Nat) (l : List S) : (List W → Ans) → Ans := List.rec (motive := fun _ => (List W → Ans) → Ans) (fun k => k []) (fun y _ ih k => af2 y fun r => eqNK r.length wd (ih fun rs => appK r rs k)) l
theorem bf9 (wd : Nat) {L : Out} : ∀ {l : List S} {k : List W → Ans}, rowsK wd l k = some L → ∃ cs : List W, ab6 wd (l.map S.v) = some (cs.map W.v) ∧ k cs = some L
 | [], k, h => ⟨[], rfl, h⟩
 | y :: l, k, h => by
   change af2 y (fun r => eqNK r.length wd (rowsK wd l fun rs => appK r rs k)) = some L at h
   obtain ⟨r, h1, h2⟩ := ag5 h
   obtain ⟨h3, h4⟩ := af8 h2
   obtain ⟨cs, h5, h6⟩ := bf9 wd h4
   rw [av3] at h6
   refine ⟨r ++ cs, ?_, h6⟩
   simp only [List.map_cons, ab6, rowOf, h1, h5]
   rw [if_pos (by simpa using h3), List.map_append]
noncomputable def repK (z : List W) (n : Nat) : (List W → Ans) → Ans := Nat.rec (motive := fun _ => (List W → Ans) → Ans) (fun k => k []) (fun _ ih k => ih fun r => appK z r k) n
theorem aq8 (z : List W) {L : Out} : ∀ {n : Nat} {k : List W → Ans}, repK z n k = some L → ∃ cs : List W, cs.map W.v = (List.replicate n (z.map W.v)).flatten ∧ k cs = some L
 | 0, k, h => ⟨[], rfl, h⟩
 | n + 1, k, h => by
   change repK z n (fun r => appK z r k) = some L at h
   obtain ⟨cs, h1, h2⟩ := aq8 z h
   rw [av3] at h2
   exact ⟨z ++ cs, by rw [List.map_append, h1]; rfl, h2⟩
noncomputable def nslK (s : S) (A : Ans) (k : Nat → Nat → Nat → Nat → Option Nat → Ans) : Ans := S.rec (motive := fun _ => Ans) (fun w => W.rec (motive := fun _ => Ans) (fun _ => none) (fun _ _ => none) (fun _ _ => none) (fun _ _ => none) (fun a o w l c => k a o w l c) A none (fun _ => none) (fun _ => none) w) (fun _ => none) (fun _ => none) s
theorem nslK_spec {s : S} {A : Ans} {k : Nat → Nat → Nat → Nat → Option Nat → Ans} {L : Out} (h : nslK s A k = some L) : (s.v = .ns ∧ A = some L) ∨ ∃ a o w l c, s.v = .sl a o w l c ∧ k a o w l c = some L := by
 rcases s with w | _ | _ <;> first | (cases h; done) | skip
 cases w <;> first | (cases h; done) | exact .inr ⟨_, _, _, _, _, rfl, h⟩ | exact .inl ⟨rfl, h⟩
noncomputable def seesK (t : T) (wd : Nat) (s : S) (k : List W → Nat → Ans) : Ans := nslK s (k [] 0) fun a off wd' len _ => gT t a fun o => cO o fun _ cs => eqNK wd wd' (fNa (len * wd) fun m => cutK off m cs fun l => k l len)
theorem bf5 {t : T} {wd : Nat} {s : S} {k : List W → Nat → Ans} {L : Out} (h : seesK t wd s k = some L) : ∃ l n, az2 t.h wd s.v = some (l.map W.v) ∧ k l n = some L ∧ ((s.v = .ns ∧ n = 0) ∨ ∃ a o w c, s.v = .sl a o w n c) := by
 rcases nslK_spec h with ⟨h1, h2⟩ | ⟨a, off, wd', len, cp, h1, h2⟩
 ·exact ⟨[], 0, by rw [h1]; rfl, h2, .inl ⟨h1, rfl⟩⟩
 ·simp only [ak2, ac9] at h2
  obtain ⟨gr, cs, h3, h4⟩ := aq2 h2
  obtain ⟨rfl, h5⟩ := af8 h4
  obtain ⟨h6, h7⟩ := bc7 h5
  have h8 : t.h a = .c gr (cs.map W.v) := by show (t.fn a).o = _; rw [h3]; rfl
  refine ⟨_, len, ?_, h7, .inr ⟨_, _, _, _, h1⟩⟩
  rw [h1]
  simp only [az2, h8]
  rw [if_pos ⟨trivial, by simpa using h6⟩, List.map_take, List.map_drop]
def mstE (kt : KT) (k v : V) (es : List (V × V × Nat)) (clock : Nat) : Option (List (V × V × Nat) × Nat) :=
 if kt.is k then match ap6 kt k es 0 with
   | some (some n) => match es[n]? with
     | some (_, _, b) => some (es.set n (k, v, b), clock)
     | none => none
   | some none => some (es ++ [(k, v, clock)], clock + 1)
   | none => none
  else none
def menE (kt : KT) (k z : V) (es : List (V × V × Nat)) (clock : Nat) : Option (V × List (V × V × Nat) × Nat) :=
 if kt.is k then match ap6 kt k es 0 with
   | some (some n) => match es[n]? with
     | some (_, v, b) => some (.tu [v, .i .i64 b], es.set n (k, v, b), clock)
     | none => none
   | some none => some (.tu [z, .i .i64 clock], es ++ [(k, z, clock)], clock + 1)
   | none => none
  else none
def ensE (b : Int) (v : V) (es : List (V × V × Nat)) : Option (List (V × V × Nat)) :=
 match bidx b es 0 with
  | some n => match es[n]? with
    | some (k, _, q) => some (es.set n (k, v, q))
    | none => none
  | none => none
noncomputable def rmK (o : RO) (k : List (V × V × Nat) → Nat → Ans) : Ans := RO.rec (motive := fun _ => Ans) none none (fun _ _ => none) (fun es c => k es c) (fun _ _ _ _ _ _ => none) o
theorem rmK_spec {o : RO} {k : List (V × V × Nat) → Nat → Ans} {L : Out} (h : rmK o k = some L) : ∃ es c, o = .m es c ∧ k es c = some L := by
 cases o <;> first | (cases h; done) | exact ⟨_, _, rfl, h⟩
noncomputable def fin (d : Nat) (v : S) (e : Vn) (t : T) (nx : Nat) (k : KV) : Ans := sE d v e fun e => k e t nx
noncomputable def oSet (d : Nat) (x : AX) (rb : Nat) (e : Vn) (t : T) (nx : Nat) (k : KV) : Ans := wX x e t fun v => fin d v e t nx k
noncomputable def oNew (d j : Nat) (zero : List V) (rb : Nat) (e : Vn) (t : T) (nx : Nat) (k : KV) : Ans := fNa (rb + j) fun a => wVs zero fun cs => sT t a (.c false cs) fun t => fin d (.w (.p a 0)) e t nx k
noncomputable def oBox (d j : Nat) (x : AO) (rb : Nat) (e : Vn) (t : T) (nx : Nat) (k : KV) : Ans := wO x e fun v => af2 v fun l => fNa (rb + j) fun a => sT t a (.c false l) fun t => fin d (.w (.p a 0)) e t nx k
noncomputable def oBsl (d j wd : Nat) (xs : List AO) (rb : Nat) (e : Vn) (t : T) (nx : Nat) (k : KV) : Ans := wOs xs e fun l => rowsK wd l fun cs => fNa (rb + j) fun a => fNa xs.length fun n => sT t a (.c false cs) fun t => fin d (.w (.sl a 0 wd n none)) e t nx k
noncomputable def oMks (d j : Nat) (n c : AO) (wd bytes : Nat) (zero : List V) (rb : Nat) (e : Vn) (t : T) (nx : Nat) (k : KV) : Ans := wO n e fun v => sI v fun _ n => wO c e fun v => sI v fun _ c =>
 be8 (0 ≤ n ∧ n ≤ c ∧ c ≤ 1073741824 ∧ bytes * c ≤ 281474976710656 ∧ zero.length = wd) (wVs zero fun z => repK z c.toNat fun cs => fNa (rb + j) fun a => fNa n.toNat fun m => sT t a (.c false cs) fun t => fin d (.w (.sl a 0 wd m none)) e t nx k)
noncomputable def oMkm (d j : Nat) (rb : Nat) (e : Vn) (t : T) (nx : Nat) (k : KV) : Ans := fNa (rb + j) fun a => sT t a (.m [] 0) fun t => fin d (.w (.m a)) e t nx k
noncomputable def oStp (xa : AO) (n : Nat) (x : AO) (rb : Nat) (e : Vn) (t : T) (nx : Nat) (k : KV) : Ans := wO xa e fun v => wO x e fun y => af2 y fun l => sP v fun a off => gT t a fun o => cO o fun gr cs => eqNK l.length n (putK off l cs fun cs => sT t a (.c gr cs) fun t => k e t nx)
noncomputable def appEK (rb d j : Nat) (s : S) (xs : List W) (n wd bytes : Nat) (e : Vn) (t : T) (nx : Nat) (k : KV) : Ans := nslK s
 (ifB (Nat.beq n 0) (fin d s e t nx k) (ifB (room n bytes) (fNa (rb + j) fun a => sT t a (.c true xs) fun t => fin d (.w (.sl a 0 wd n none)) e t nx k) none))
 fun a off wd' len cp => ifB (Nat.beq n 0) (fin d s e t nx k) (eqNK wd wd' (ifB (Nat.beq wd 0) none (gT t a fun o => cO o fun gr cs => fNa (len + n) fun m => fNa (off + m * wd) fun q => fNa cs.length fun cl =>
   ifB (fitsC cp m q cl) (ifB (Nat.ble q cl) (fNa (off + len * wd) fun w => putK w xs cs fun cs => sT t a (.c gr cs) fun t => fin d (.w (.sl a off wd m cp)) e t nx k) none)
    (ifB (room m bytes) (fNa (rb + j) fun b => fNa (len * wd) fun lw => ifB (cp.isSome || !gr) (cutK off lw cs fun l => appK l xs fun l => sT t b (.c true l) fun t => fin d (.w (.sl b 0 wd m none)) e t nx k)
      (ifB (Nat.beq off 0) (takeA lw cs fun l => appK l xs fun l => sT t a .gone fun t => sT t b (.c true l) fun t => fin d (.w (.sl b 0 wd m none)) e t nx k) none)) none))))
noncomputable def oApp (d j : Nat) (s x : AO) (wd bytes : Nat) (rb : Nat) (e : Vn) (t : T) (nx : Nat) (k : KV) : Ans := wO x e fun v => seesK t wd v fun xs n => wO s e fun s => appEK rb d j s xs n wd bytes e t nx k
noncomputable def oApz (d j : Nat) (s n : AO) (wd bytes : Nat) (zero : List V) (rb : Nat) (e : Vn) (t : T) (nx : Nat) (k : KV) : Ans := wO n e fun v => sI v fun _ n => be8 (0 ≤ n ∧ n ≤ 1073741824 ∧ zero.length = wd ∧ n * bytes ≤ 281474976710656)
 (fNa n.toNat fun m => wVs zero fun z => repK z m fun xs => wO s e fun s => appEK rb d j s xs m wd bytes e t nx k)
noncomputable def oCpy (d : Nat) (a b : AO) (wd : Nat) (rb : Nat) (e : Vn) (t : T) (nx : Nat) (k : KV) : Ans := wO a e fun va => wO b e fun vb => sSl va fun aa off wa la _ => sSl vb fun _ _ _ lb _ => seesK t wd vb fun xs _ => gT t aa fun o => cO o fun gr cs =>
 be8 (wd = wa ∧ off + la * wd ≤ cs.length) (fNa (min la lb) fun m => fNa (m * wd) fun q => takeA q xs fun ys => putK off ys cs fun cs => sT t aa (.c gr cs) fun t => fin d (.w (.i .i64 (.ofNat m))) e t nx k)
noncomputable def oClr (x : AO) (wd : Nat) (zero : List V) (rb : Nat) (e : Vn) (t : T) (nx : Nat) (k : KV) : Ans := wO x e fun v => sSl v fun a off wd' len _ => gT t a fun o => cO o fun gr cs => be8 (wd = wd' ∧ zero.length = wd ∧ off + len * wd ≤ cs.length) (wVs zero fun z => repK z len fun zs => putK off zs cs fun cs => sT t a (.c gr cs) fun t => k e t nx)
noncomputable def oMst (m key v : AO) (kt : KT) (rb : Nat) (e : Vn) (t : T) (nx : Nat) (k : KV) : Ans := wO m e fun mv => sMp mv fun a => wO key e fun q => wO v e fun v => vS q fun q => vS v fun v => gT t a fun o => rmK o fun es c => ob (mstE kt q v es c) fun r => match r with
 | (es, c) => fSp es fun es => fNa c fun c => sT t a (.m es c) fun t => k e t nx
noncomputable def oMen (d : Nat) (m key : AO) (kt : KT) (zero : List V) (agg : Bool) (rb : Nat) (e : Vn) (t : T) (nx : Nat) (k : KV) : Ans := wO m e fun mv => sMp mv fun a => wO key e fun q => vS q fun q => ob (pack agg zero) fun z => gT t a fun o => rmK o fun es c => ob (menE kt q z es c) fun r => match r with
 | (v, es, c) => sV v fun s => fSp es fun es => fNa c fun c => sT t a (.m es c) fun t => fin d s e t nx k
noncomputable def oEns (m s v : AO) (rb : Nat) (e : Vn) (t : T) (nx : Nat) (k : KV) : Ans := wO m e fun mv => sMp mv fun a => wO s e fun sv => sI sv fun _ b => wO v e fun v => vS v fun v => gT t a fun o => rmK o fun es c => ob (ensE b v es) fun es => fSp es fun es => sT t a (.m es c) fun t => k e t nx
noncomputable def outK (o : Out) (k : S → T → Nat → Ans) : Ans := Prod.rec (motive := fun _ => Ans) (fun r q => Prod.rec (motive := fun _ => Ans) (fun t nx => k r t nx) q) o
noncomputable def oCal (a : AFn) (d : Nat) (f : FuncId) (args : List AO) (rb : Nat) (e : Vn) (t : T) (nx : Nat) (k : KV) : Ans := wOs args e fun xs => ob (a f xs t nx) fun o => outK o fun r t nx => fin d r e t nx k
noncomputable def zK (s : S) (k : V → Ans) : Ans := S.rec (motive := fun _ => Ans) (fun w => W.rec (motive := fun _ => Ans) (fun _ => none) (fun _ _ => none) (fun _ _ => none) (fun _ _ => none) (fun _ _ _ _ _ => none) none none (fun _ => none) (fun x => k x) w) (fun _ => none) (fun _ => none) s
theorem zK_spec {s : S} {k : V → Ans} {L : Out} (h : zK s k = some L) : k s.v = some L := by
 rcases s with w | _ | _ <;> first | (cases h; done) | skip
 cases w <;> first | (cases h; done) | exact h
noncomputable def oCav (a : AFn) (y : RFn) (d : Nat) (x : AO) (args : List AO) (rb : Nat) (e : Vn) (t : T) (nx : Nat) (k : KV) : Ans := wO x e fun v => wOs args e fun xs => zK v fun v => match v with
 | .fn f fst caps => sVs caps fun caps => sVs fst fun fst => appK xs caps fun l => appK fst l fun l => ob (a f l t nx) fun o => outK o fun r t nx => fin d r e t nx k
 | .yl i => ob (y i xs t nx) fun o => outK o fun r t nx => fin d r e t nx k
 | _ => none
noncomputable def oInv (a : AFn) (d : Nat) (x : AO) (args : List AO) (tb : List (TypeId × FuncId × Option (Nat × Bool))) (rb : Nat) (e : Vn) (t : T) (nx : Nat) (k : KV) : Ans := wO x e fun v => zK v fun v => match v with
 | .ifc ty v => ob (tb.find? fun e => e.1 == ty) fun q => sV v fun s => match q with
   | (_, f, none) => wOs args e fun xs => ob (a f (s :: xs) t nx) fun o => outK o fun r t nx => fin d r e t nx k
   | (_, f, some (n, agg)) => ldK n agg t s fun s => wOs args e fun xs => ob (a f (s :: xs) t nx) fun o => outK o fun r t nx => fin d r e t nx k
 | _ => none
noncomputable def oDfr (np : FuncId → Bool) (x : AO) (args : List AO) (rb : Nat) (e : Vn) (t : T) (nx : Nat) (k : KV) : Ans := wO x e fun v => zK v fun v => match v with
 | .fn f _ _ => ifB (np f) (k e t nx) none
 | _ => none
noncomputable def wOp (np : FuncId → Bool) (a : AFn) (y : RFn) (op : AOp) : Nat → Vn → T → Nat → KV → Ans :=
 AOp.rec (motive := fun _ => Nat → Vn → T → Nat → KV → Ans) oSet oNew oBox oBsl oMks oMkm oStp oApp oApz oCpy oClr oMst (fun _ _ _ _ _ _ _ _ => none) oMen oEns (oCal a) (oCav a y) (oInv a) (oDfr np) op
def dOk (d : Option Nat) : Bool := match d with
 | some d => Nat.blt d 272
 | none => true
section
variable {P : Program} {a : AFn} {y : RFn} {np : FuncId → Bool} {e : Vn} {t : T} {nx rb : Nat} {k : KV} {L : Out}
theorem am1 {d : Nat} (hd : Nat.blt d 272 = true) {v : S} (h : fin d v e t nx k = some L) : KS k L { sl := upd e.sl d v.v, h := t.h, nx := nx, df := [] } := by
 simp only [fin, sE_eq] at h
 exact ⟨_, t, nx, by simp only [stO, Vn.put_sl e v (bh9 hd)], h⟩
theorem kp_ok (h : k e t nx = some L) : KS k L (stO e t nx) := ⟨e, t, nx, rfl, h⟩
theorem aw0 {d : Nat} (hd : Nat.blt d 272 = true) {ad : Nat} {o : RO} {v : S} (h : (sT t ad o fun t => fin d v e t nx k) = some L) : KS k L ((stO e t nx).alc ad o.o d v.v) := by
 obtain ⟨t', h1, h2⟩ := af3 _ _ _ _ _ h
 have := am1 hd h2
 rw [T.put_h h1] at this
 exact this
theorem chg_ok {ad : Nat} {o : RO} (h : (sT t ad o fun t => k e t nx) = some L) : KS k L ((stO e t nx).chg ad o.o) := by
 obtain ⟨t', h1, h2⟩ := af3 _ _ _ _ _ h
 have := kp_ok h2
 simp only [stO, T.put_h h1] at this
 exact this
theorem chgv_ok {d : Nat} (hd : Nat.blt d 272 = true) {ad : Nat} {o : RO} {v : S} (h : (sT t ad o fun t => fin d v e t nx k) = some L) : KS k L (((stO e t nx).chg ad o.o).put d v.v) := by
 obtain ⟨t', h1, h2⟩ := af3 _ _ _ _ _ h
 have := am1 hd h2
 rw [T.put_h h1] at this
 exact this
theorem at_c {ad : Nat} {gr : Bool} {cs : List W} (h : t.fn ad = .c gr cs) : t.h ad = .c gr (cs.map W.v) := by show (t.fn ad).o = _; rw [h]; rfl
theorem at_m {ad : Nat} {es : List (V × V × Nat)} {c : Nat} (h : t.fn ad = .m es c) : t.h ad = .m es c := by show (t.fn ad).o = _; rw [h]; rfl
theorem appEK_ok {d j : Nat} (hd : Nat.blt d 272 = true) {s : S} {xs : List W} {n wd bytes : Nat} (h : appEK rb d j s xs n wd bytes e t nx k = some L) : ∃ st', appE rb (stO e t nx) d j s.v (xs.map W.v) n wd bytes = some st' ∧ KS k L st' := by
 simp only [appEK, ac9, ak2, av3] at h
 rcases nslK_spec h with ⟨hs, h2⟩ | ⟨a, off, wd', len, cp, hs, h2⟩
 ·rw [hs]
  simp only [appE]
  rcases p8 h2 with ⟨hb, h1⟩ | ⟨hb, h1⟩
  ·rw [if_pos (Nat.eq_of_beq_eq_true hb)]
   have := am1 hd h1
   rw [hs] at this
   exact ⟨_, rfl, this⟩
  ·rw [if_neg (Nat.ne_of_beq_eq_false hb)]
   rcases p8 h1 with ⟨hb, h3⟩ | ⟨_, h3⟩
   ·rw [if_pos hb]; exact ⟨_, rfl, aw0 hd h3⟩
   ·cases h3
 ·rw [hs]
  simp only [appE]
  rcases p8 h2 with ⟨hb, h1⟩ | ⟨hb, h1⟩
  ·rw [if_pos (Nat.eq_of_beq_eq_true hb)]
   have := am1 hd h1
   rw [hs] at this
   exact ⟨_, rfl, this⟩
  ·rw [if_neg (Nat.ne_of_beq_eq_false hb)]
   obtain ⟨hw, h3⟩ := af8 h1
   rcases p8 h3 with ⟨_, h4⟩ | ⟨hb0, h4⟩
   ·cases h4
   rw [if_neg (by rintro (q | q); exact q hw; exact Nat.ne_of_beq_eq_false hb0 q)]
   obtain ⟨gr, cs, ho, h5⟩ := aq2 h4
   have ho' : (stO e t nx).h a = .c gr (cs.map W.v) := at_c ho
   simp only [ho', List.length_map]
   rcases p8 h5 with ⟨hb, h6⟩ | ⟨hb, h6⟩
   ·rw [if_pos hb]
    rcases p8 h6 with ⟨hb, h7⟩ | ⟨_, h7⟩
    ·rw [if_pos (Nat.le_of_ble_eq_true hb)]
     obtain ⟨_, r, hr, h8⟩ := ah9 h7
     have := chgv_ok hd h8
     refine ⟨_, rfl, ?_⟩
     rw [← hr]; exact this
    ·cases h7
   ·rw [if_neg (by rw [hb]; simp)]
    rcases p8 h6 with ⟨hr, h7⟩ | ⟨_, h7⟩
    rotate_left
    ·cases h7
    rcases p8 h7 with ⟨hg, h8⟩ | ⟨hg, h8⟩
    ·obtain ⟨hl, h9⟩ := bc7 h8
     rw [if_pos ⟨hr, hl⟩, if_pos (by simpa using hg)]
     have := aw0 hd h9
     refine ⟨_, rfl, ?_⟩
     rw [← List.map_drop, ← List.map_take, ← List.map_append]; exact this
    ·rcases p8 h8 with ⟨h0, h9⟩ | ⟨_, h9⟩
     rotate_left
     ·cases h9
     have h0 := Nat.eq_of_beq_eq_true h0
     obtain ⟨hl, h10⟩ := at3 h9
     rw [if_pos ⟨hr, by omega⟩, if_neg (by simpa using hg), if_pos h0]
     obtain ⟨t1, q1, h11⟩ := af3 _ _ _ _ _ h10
     have := aw0 (nx := nx) hd h11
     refine ⟨_, rfl, ?_⟩
     simp only [stO, T.put_h q1] at this
     rw [← List.map_take, ← List.map_append]; exact this
theorem wOp_ok (hn : be9 P np) (ha : AFOk P a) (hy : RFOk P y) {op : AOp} (hd : dOk op.dst = true) (h : wOp np a y op rb e t nx k = some L) : owp P rb (KS k L) (stO e t nx) op := by
 have hs : ∀ x : AO, evO (stO e t nx).sl x = (wOv x e).v := fun x => (ad2 x e).symm
 cases op
 case set d x =>
  change oSet d x rb e t nx k = some L at h
  obtain ⟨s, h1, h2⟩ := wX_spec x h
  exact ⟨_, by show (evX e.sl t.h x).map _ = _; rw [h1]; rfl, am1 hd h2⟩
 case new d j zero =>
  change oNew d j zero rb e t nx k = some L at h
  simp only [oNew, ac9, av5] at h
  have := aw0 hd h
  simp only [RO.o, W.map_of] at this
  exact ⟨_, rfl, this⟩
 case box d j x =>
  change oBox d j x rb e t nx k = some L at h
  simp only [oBox, ac9, z8] at h
  obtain ⟨l, h1, h2⟩ := ag5 h
  exact ⟨_, by show (stored (evO (stO e t nx).sl x)).map _ = _; rw [hs, h1]; rfl, aw0 hd h2⟩
 case bsl d j wd xs =>
  change oBsl d j wd xs rb e t nx k = some L at h
  simp only [oBsl, ac9, bf1] at h
  obtain ⟨cs, h1, h2⟩ := bf9 wd h
  rw [ay3] at h1
  exact ⟨_, by show (ab6 wd (ae5 e.sl xs)).map _ = _; rw [h1]; rfl, aw0 hd h2⟩
 case mks d j n c wd bytes zero =>
  change oMks d j n c wd bytes zero rb e t nx k = some L at h
  simp only [oMks, ac9, z8, av5] at h
  obtain ⟨_, n', e1, h⟩ := az5 h
  obtain ⟨_, c', e2, h⟩ := az5 h
  obtain ⟨hc, h⟩ := ai7 h
  obtain ⟨cs, e3, h⟩ := aq8 _ h
  rw [W.map_of] at e3
  have := aw0 hd h
  simp only [RO.o, e3] at this
  refine ⟨_, ?_, this⟩
  simp only [q9, hs, e1, e2, if_pos hc]; rfl
 case mkm d j =>
  change oMkm d j rb e t nx k = some L at h
  simp only [oMkm, ac9] at h
  exact ⟨_, rfl, aw0 hd h⟩
 case stp xa n x =>
  change oStp xa n x rb e t nx k = some L at h
  simp only [oStp, z8, ak2] at h
  obtain ⟨l, hl, h⟩ := ag5 h
  obtain ⟨a', off, e1, h⟩ := sP_spec h
  obtain ⟨gr, cs, e2, h⟩ := aq2 h
  obtain ⟨e3, h⟩ := af8 h
  obtain ⟨e4, r, e5, h⟩ := ah9 h
  have := chg_ok h
  simp only [RO.o, e5] at this
  refine ⟨_, ?_, this⟩
  have e6 : (stO e t nx).h a' = .c gr (cs.map W.v) := at_c e2
  simp only [q9, hs, e1, hl, e6]
  rw [if_pos ⟨by simpa using e3, by simp; omega⟩]
 case app d j s x wd bytes =>
  change oApp d j s x wd bytes rb e t nx k = some L at h
  simp only [oApp, z8] at h
  obtain ⟨xs, n, h1, h2, h3⟩ := bf5 h
  have h4 := appEK_ok hd h2
  simp only [owp, q9, hs]
  have h1' : az2 (stO e t nx).h wd (wOv x e).v = some (xs.map W.v) := h1
  rw [h1']
  rcases h3 with ⟨h3, rfl⟩ | ⟨a', o', w', c', h3⟩
  ·rw [h3]; exact h4
  ·rw [h3]; exact h4
 case apz d j s n wd bytes zero =>
  change oApz d j s n wd bytes zero rb e t nx k = some L at h
  simp only [oApz, z8, ac9, av5] at h
  obtain ⟨_, n', e1, h⟩ := az5 h
  obtain ⟨hc, h⟩ := ai7 h
  obtain ⟨cs, e3, h⟩ := aq8 _ h
  rw [W.map_of] at e3
  have h4 := appEK_ok hd h
  rw [e3] at h4
  simp only [owp, q9, hs, e1, if_pos hc]
  exact h4
 case cpy d x1 x2 wd =>
  change oCpy d x1 x2 wd rb e t nx k = some L at h
  simp only [oCpy, z8, ac9, ak2] at h
  obtain ⟨aa, off, wa, la, cp, e1, h⟩ := ax0 h
  obtain ⟨ab, ob', wb, lb, cb, e2, h⟩ := ax0 h
  obtain ⟨xs, _, e3, h, _⟩ := bf5 h
  obtain ⟨gr, cs, e4, h⟩ := aq2 h
  obtain ⟨hc, h⟩ := ai7 h
  obtain ⟨_, h⟩ := at3 h
  obtain ⟨_, r, e5, h⟩ := ah9 h
  have := chgv_ok hd h
  simp only [RO.o, e5, List.map_take] at this
  refine ⟨_, ?_, this⟩
  have e6 : (stO e t nx).h aa = .c gr (cs.map W.v) := at_c e4
  rw [e2] at e3
  have e3' : az2 (stO e t nx).h wd (.sl ab ob' wb lb cb) = some (xs.map W.v) := e3
  simp only [q9, hs, e1, e2, e3', e6, List.length_map, if_pos hc]; rfl
 case clr x wd zero =>
  change oClr x wd zero rb e t nx k = some L at h
  simp only [oClr, z8, ak2, av5] at h
  obtain ⟨aa, off, wa, la, cp, e1, h⟩ := ax0 h
  obtain ⟨gr, cs, e4, h⟩ := aq2 h
  obtain ⟨hc, h⟩ := ai7 h
  obtain ⟨zs, e3, h⟩ := aq8 _ h
  rw [W.map_of] at e3
  obtain ⟨_, r, e5, h⟩ := ah9 h
  have := chg_ok h
  simp only [RO.o, e5, e3] at this
  refine ⟨_, ?_, this⟩
  have e6 : (stO e t nx).h aa = .c gr (cs.map W.v) := at_c e4
  simp only [q9, hs, e1, e6, List.length_map, if_pos hc]
 case mst m key v kt =>
  change oMst m key v kt rb e t nx k = some L at h
  simp only [oMst, z8, ao7, ak2] at h
  obtain ⟨ad, e1, h⟩ := sMp_spec h
  obtain ⟨es, c, e2, h⟩ := rmK_spec h
  obtain ⟨⟨es', c'⟩, ho, h⟩ := u4 h
  simp only [fSp_eq, ac9] at h
  have hk := chg_ok h
  have e6 : (stO e t nx).h ad = .m es c := at_m e2
  simp only [owp, q9, hs, e1, e6]
  unfold mstE at ho
  split at ho
  ·rename_i hkt
   simp only [if_pos hkt]
   split at ho
   ·rename_i n hn
    split at ho
    ·rename_i k0 v0 b hb
     cases ho; exact ⟨_, by simp only [hn, hb]; rfl, hk⟩
    ·cases ho
   ·rename_i hn
    cases ho; exact ⟨_, by simp only [hn]; rfl, hk⟩
   ·cases ho
  ·cases ho
 case mdl m key kt => cases h
 case men d m key kt zero agg =>
  change oMen d m key kt zero agg rb e t nx k = some L at h
  simp only [oMen, z8, ao7, ak2] at h
  obtain ⟨ad, e1, h⟩ := sMp_spec h
  obtain ⟨z, hz, h⟩ := u4 h
  obtain ⟨es, c, e2, h⟩ := rmK_spec h
  obtain ⟨⟨v, es', c'⟩, ho, h⟩ := u4 h
  obtain ⟨s, hsv, h⟩ := sV_v _ _ h
  simp only [fSp_eq, ac9] at h
  have hk := chgv_ok hd h
  rw [hsv] at hk
  have e6 : (stO e t nx).h ad = .m es c := at_m e2
  simp only [owp, q9, hs, e1, hz, e6]
  unfold menE at ho
  split at ho
  ·rename_i hkt
   simp only [if_pos hkt]
   split at ho
   ·rename_i n hn
    split at ho
    ·rename_i k0 v0 b hb
     cases ho; exact ⟨_, by simp only [hn, hb]; rfl, hk⟩
    ·cases ho
   ·rename_i hn
    cases ho; exact ⟨_, by simp only [hn]; rfl, hk⟩
   ·cases ho
  ·cases ho
 case ens m s v =>
  change oEns m s v rb e t nx k = some L at h
  simp only [oEns, z8, ao7, ak2] at h
  obtain ⟨ad, e1, h⟩ := sMp_spec h
  obtain ⟨_, b, e3, h⟩ := az5 h
  obtain ⟨es, c, e2, h⟩ := rmK_spec h
  obtain ⟨es', ho, h⟩ := u4 h
  simp only [fSp_eq] at h
  have hk := chg_ok h
  have e6 : (stO e t nx).h ad = .m es c := at_m e2
  simp only [owp, q9, hs, e1, e3, e6]
  unfold ensE at ho
  split at ho
  ·rename_i n hn
   split at ho
   ·rename_i k0 v0 b hb
    cases ho; exact ⟨_, by simp only [hn, hb]; rfl, hk⟩
   ·cases ho
  ·cases ho
 case cal d f args =>
  change oCal a d f args rb e t nx k = some L at h
  simp only [oCal, bf1] at h
  obtain ⟨⟨r, t', nx'⟩, ho, h⟩ := u4 h
  have hc := ha _ _ _ _ _ _ _ ho
  rw [ay3] at hc
  exact ⟨r.v, t'.h, nx', hc, am1 hd h⟩
 case cav d x args =>
  change oCav a y d x args rb e t nx k = some L at h
  simp only [oCav, z8, bf1] at h
  have h := zK_spec h
  have hx : evO (stO e t nx).sl x = (wOv x e).v := hs x
  simp only [owp, hx]
  cases hv : (wOv x e).v <;> rw [hv] at h <;> first | (cases h; done) | skip
  ·obtain ⟨⟨r, t', nx'⟩, ho, h⟩ := u4 h
   have hc := hy _ _ _ _ _ _ _ ho
   rw [ay3] at hc
   exact ⟨r.v, t'.h, nx', hc, am1 hd h⟩
  ·rename_i f fst caps
   obtain ⟨cs', e1, h⟩ := sVs_v _ _ h
   obtain ⟨fs', e2, h⟩ := sVs_v _ _ h
   simp only [av3] at h
   obtain ⟨⟨r, t', nx'⟩, ho, h⟩ := u4 h
   have hc := ha _ _ _ _ _ _ _ ho
   rw [List.map_append, List.map_append, e1, e2, ay3] at hc
   refine ⟨r.v, t'.h, nx', ?_, am1 hd h⟩
   show ACalls P f (fst ++ ae5 e.sl args ++ caps) _ _ _ _ _
   rw [List.append_assoc]; exact hc
 case inv d x args tb =>
  change oInv a d x args tb rb e t nx k = some L at h
  simp only [oInv, z8, bf1] at h
  have h := zK_spec h
  have hx : evO (stO e t nx).sl x = (wOv x e).v := hs x
  simp only [owp, hx]
  cases hv : (wOv x e).v <;> rw [hv] at h <;> first | (cases h; done) | skip
  rename_i ty v
  obtain ⟨⟨ty', f, dd⟩, hq, h⟩ := u4 h
  obtain ⟨s, hsv, h⟩ := sV_v _ _ h
  cases dd with
  | none =>
    obtain ⟨⟨r, t', nx'⟩, ho, h⟩ := u4 h
    have hc := ha _ _ _ _ _ _ _ ho
    rw [List.map_cons, hsv, ay3] at hc
    exact ⟨f, v, r.v, t'.h, nx', by simp only [invV, hq, recvV], hc, am1 hd h⟩
  | some na =>
    obtain ⟨n, agg⟩ := na
    simp only [ldK, ak2] at h
    obtain ⟨a', off, e1, h⟩ := sP_spec h
    obtain ⟨gr, cs, e2, h⟩ := aq2 h
    obtain ⟨s', h5, h6, h⟩ := bc8 h
    obtain ⟨⟨r, t', nx'⟩, ho, h⟩ := u4 h
    have hc := ha _ _ _ _ _ _ _ ho
    rw [List.map_cons, ay3] at hc
    have e6 : (stO e t nx).h a' = .c gr (cs.map W.v) := at_c e2
    have hr' : recvV (stO e t nx).h v (some (n, agg)) = some s'.v := by
     rw [← hsv, e1]
     simp only [recvV, evX, evO, e6]
     rw [if_pos (by simpa using h5)]; exact h6
    exact ⟨f, s'.v, r.v, t'.h, nx', by simp only [invV, hq, hr'], hc, am1 hd h⟩
 case dfr x args =>
  change oDfr np x args rb e t nx k = some L at h
  simp only [oDfr, z8] at h
  have h := zK_spec h
  have hx : evO (stO e t nx).sl x = (wOv x e).v := hs x
  simp only [owp, hx]
  cases hv : (wOv x e).v <;> rw [hv] at h <;> first | (cases h; done) | skip
  rename_i f fst caps
  rcases p8 h with ⟨hb, h⟩ | ⟨_, h⟩
  ·exact ⟨f, fst, caps, rfl, hn f hb, kp_ok h⟩
  ·cases h
noncomputable def clrK (d : Option Nat) (e : Vn) (k : Vn → Ans) : Ans := match d with
 | none => k e
 | some d => sE d (.w (.z udf)) e k
def undK (x : V) (C : Ans) : Ans := match x with
 | .tu [] => C
 | _ => none
noncomputable def grdK (s : S) (A B C : Ans) : Ans := S.rec (motive := fun _ => Ans) (fun w => W.rec (motive := fun _ => Ans) (fun x => Bool.rec (motive := fun _ => Ans) B A x) (fun _ _ => none) (fun _ _ => none) (fun _ _ => none) (fun _ _ _ _ _ => none) none none (fun _ => none) (fun x => undK x C) w) (fun _ => none) (fun _ => none) s
theorem grdK_spec {s : S} {A B C : Ans} (h : grdK s A B C = some L) : (af7 s.v = some (some true) ∧ A = some L) ∨ (af7 s.v = some (some false) ∧ B = some L) ∨ (af7 s.v = some none ∧ C = some L) := by
 rcases s with w | _ | _ <;> first | (cases h; done) | skip
 cases w <;> first | (cases h; done) | skip
 ·rename_i x
  cases x
  ·exact .inr (.inl ⟨rfl, h⟩)
  ·exact .inl ⟨rfl, h⟩
 ·rename_i x
  change undK x C = some L at h
  unfold undK at h
  split at h
  ·exact .inr (.inr ⟨rfl, h⟩)
  ·cases h
noncomputable def wG (np : FuncId → Bool) (a : AFn) (y : RFn) (o : GOp) (rb : Nat) (e : Vn) (t : T) (nx : Nat) (k : KV) : Ans := GOp.rec (motive := fun _ => Ans) (fun g op => Option.rec (motive := fun _ => Ans) (wOp np a y op rb e t nx k)
 (fun q => Prod.rec (motive := fun _ => Ans) (fun j want => gE j e fun v => Bool.rec (motive := fun _ => Ans) (grdK v (clrK op.dst e fun e => k e t nx) (wOp np a y op rb e t nx k) (clrK op.dst e fun e => k e t nx)) (grdK v (wOp np a y op rb e t nx k) (clrK op.dst e fun e => k e t nx) (clrK op.dst e fun e => k e t nx)) want) q) g) o
theorem clr_ok {d : Option Nat} (hd : dOk d = true) (h : (clrK d e fun e => k e t nx) = some L) : KS k L ((stO e t nx).clr d) := by
 cases d with
 | none => exact kp_ok h
 | some d => exact am1 hd h
theorem wG_ok (hn : be9 P np) (ha : AFOk P a) (hy : RFOk P y) {o : GOp} (hd : dOk o.op.dst = true) (h : wG np a y o rb e t nx k = some L) : gwp P rb o (KS k L) (stO e t nx) := by
 obtain ⟨g, op⟩ := o
 rcases g with _ | ⟨j, want⟩
 ·exact wOp_ok hn ha hy hd h
 ·cases want with
  | false =>
    change (gE j e fun v => grdK v (clrK op.dst e fun e => k e t nx) (wOp np a y op rb e t nx k) (clrK op.dst e fun e => k e t nx)) = some L at h
    rw [gE_eq] at h
    rcases grdK_spec h with ⟨h1, h2⟩ | ⟨h1, h2⟩ | ⟨h1, h2⟩
    ·exact ⟨_, h1, by rw [if_neg (by simp)]; exact clr_ok hd h2⟩
    ·exact ⟨_, h1, by rw [if_pos rfl]; exact wOp_ok hn ha hy hd h2⟩
    ·exact ⟨_, h1, by rw [if_neg (by simp)]; exact clr_ok hd h2⟩
  | true =>
    change (gE j e fun v => grdK v (wOp np a y op rb e t nx k) (clrK op.dst e fun e => k e t nx) (clrK op.dst e fun e => k e t nx)) = some L at h
    rw [gE_eq] at h
    rcases grdK_spec h with ⟨h1, h2⟩ | ⟨h1, h2⟩ | ⟨h1, h2⟩
    ·exact ⟨_, h1, by rw [if_pos rfl]; exact wOp_ok hn ha hy hd h2⟩
    ·exact ⟨_, h1, by rw [if_neg (by simp)]; exact clr_ok hd h2⟩
    ·exact ⟨_, h1, by rw [if_neg (by simp)]; exact clr_ok hd h2⟩
end
end Go.B
