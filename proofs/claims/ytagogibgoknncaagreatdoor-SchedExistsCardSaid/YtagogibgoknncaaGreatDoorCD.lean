/-
  A fast runner of abstract codes: regions, codes, calls. Program-independent.
-/
import Derived.Test.YtagogibgoknncaaGreatDoorCC
set_option linter.unusedVariables false
set_option linter.unusedSimpArgs false
set_option linter.unusedSectionVars false
namespace Go.B
variable [iok : OkC]
def eqV1 : V → V → Bool
 | .b x, .b y => x == y
 | .i k n, .i k' n' => k == k' && n == n'
 | .s l n, .s l' n' => l == l' && n == n'
 | .np, .np | .ns, .ns | .nm, .nm | .nf, .nf | .ni, .ni => true
 | .p a o, .p a' o' => a == a' && o == o'
 | .sl a o w l c, .sl a' o' w' l' c' => a == a' && o == o' && w == w' && l == l' && c == c'
 | .m a, .m a' => a == a'
 | .tu [], .tu [] => true
 | _, _ => false
theorem eqV1_ok {x y : V} (h : eqV1 x y = true) : x = y := by
 unfold eqV1 at h
 split at h <;> first
  | rfl
  | (cases h; done)
  | (simp only [Bool.and_eq_true, beq_iff_eq] at h; simp_all; done)
def eqVs1 : List V → List V → Bool
 | [], [] => true
 | x :: xs, y :: ys => eqV1 x y && eqVs1 xs ys
 | _, _ => false
theorem eqVs1_ok : ∀ {xs ys : List V}, eqVs1 xs ys = true → xs = ys
 | [], [], _ => rfl
 | [], _ :: _, h => by cases h
 | _ :: _, [], h => by cases h
 | x :: xs, y :: ys, h => by
   simp only [eqVs1, Bool.and_eq_true] at h
   rw [eqV1_ok h.1, eqVs1_ok h.2]
def eqV : V → V → Bool
 | .ag xs, .ag ys => eqVs1 xs ys
 | .ifc t x, .ifc t' y => t == t' && eqV1 x y
 | x, y => eqV1 x y
theorem eqV_ok {x y : V} (h : eqV x y = true) : x = y := by
 unfold eqV at h
 split at h
 ·rw [eqVs1_ok h]
 ·simp only [Bool.and_eq_true, beq_iff_eq] at h; rw [h.1, eqV1_ok h.2]
 ·exact eqV1_ok h
def eqVs : List V → List V → Bool
 | [], [] => true
 | x :: xs, y :: ys => eqV x y && eqVs xs ys
 | _, _ => false
theorem eqVs_ok : ∀ {xs ys : List V}, eqVs xs ys = true → xs = ys
 | [], [], _ => rfl
 | [], _ :: _, h => by cases h
 | _ :: _, [], h => by cases h
 | x :: xs, y :: ys, h => by
   simp only [eqVs, Bool.and_eq_true] at h
   rw [eqV_ok h.1, eqVs_ok h.2]
noncomputable def wOps (np : FuncId → Bool) (a : AFn) (y : RFn) (ops : List GOp) : Nat → Vn → T → Nat → KV → Ans := List.rec (motive := fun _ => Nat → Vn → T → Nat → KV → Ans) (fun _ e t nx k => k e t nx) (fun o _ ih rb e t nx k => wG np a y o rb e t nx fun e t nx => ih rb e t nx k) ops
def AOp.isA : AOp → Bool
 | .new _ _ _ | .box _ _ _ | .bsl _ _ _ _ | .mks _ _ _ _ _ _ _ | .mkm _ _ => true
 | _ => false
def ksA : List Tr → List Nat
 | [] => []
 | t :: r => match t.2.1.op.isA with
   | true => (match t.2.1.op.kx with | some k => k :: ksA r | none => ksA r)
   | false => ksA r
noncomputable def deadK' (ks : List Nat) (rb : Nat) (t : T) (nx : Nat) (A : Ans) : Ans := List.rec (motive := fun _ => Ans) A (fun k _ ih => fNa (rb + k) fun a => gT t a fun o => ifB (!o.o.live && Nat.blt a nx) ih none) ks
def gvB (b : Option Bool) (want : Bool) (X C : Ans) : Ans := match b, want with
 | some true, true | some false, false => X
 | _, _ => C
noncomputable def wGval (q : GOp) (e : Vn) (t : T) (k : V → Ans) : Ans := match q with
 | ⟨none, .set _ x⟩ => wX x e t fun s => vS s k
 | ⟨some (j, want), .set _ x⟩ => gE j e fun v => vS v fun v => ob (af7 v) fun b => gvB b want (wX x e t fun s => vS s k) (k udf)
 | _ => none
noncomputable def rckK (all : List Tr) (is : List Nat) (e : Vn) (t : T) : (List V → Ans) → Ans := List.rec (motive := fun _ => (List V → Ans) → Ans) (fun k => k []) (fun i _ ih k => ob (au4 all i) fun q => wGval q e t fun v => ih fun l => k (v :: l)) is
noncomputable def wDrw (np : FuncId → Bool) (a : AFn) (y : RFn) (all L : List Tr) : Nat → Vn → T → Nat → KV → Ans := List.rec (motive := fun _ => Nat → Vn → T → Nat → KV → Ans) (fun _ e t nx k => k e t nx)
 (fun o r ih rb e t nx k => deadK' (ksA (o :: r)) rb t nx (match o.2.2 with
   | [] => wG np a y o.2.1 rb e t nx fun e t nx => ih rb e t nx k
   | is => rckK all is e t fun vs => wG np a y o.2.1 rb e t nx fun e t nx => rckK all is e t fun ws => ifB (eqVs vs ws) (ih rb e t nx k) none)) L
section
variable {P : Program} {a : AFn} {y : RFn} {np : FuncId → Bool} {e : Vn} {t : T} {nx rb : Nat} {k : KV} {L : Out}
theorem wOps_ok (hn : be9 P np) (ha : AFOk P a) (hy : RFOk P y) : ∀ {ops : List GOp} {e : Vn} {t : T} {nx : Nat}, (ops.all fun o => dOk o.op.dst) = true → wOps np a y ops rb e t nx k = some L → rwp P rb ops (KS k L) (stO e t nx)
 | [], e, t, nx, hl, h => kp_ok h
 | o :: r, e, t, nx, hl, h => by
   simp only [List.all_cons, Bool.and_eq_true] at hl
   change wG np a y o rb e t nx (fun e t nx => wOps np a y r rb e t nx k) = some L at h
   refine aj8 (fun s hs => ?_) (wG_ok hn ha hy hl.1 h)
   obtain ⟨e', t', nx', rfl, h2⟩ := hs
   exact wOps_ok hn ha hy hl.2 h2
theorem isA_cl {op : AOp} (h : op.cl = .a) : op.isA = true := by
 cases op <;> first | rfl | (simp [AOp.cl] at h; done) | skip
 simp only [AOp.cl] at h; split at h <;> cases h
theorem ksA_mem : ∀ {L : List Tr} {u : Tr}, u ∈ L → u.2.1.op.cl = .a → ∀ k, u.2.1.op.kx = some k → k ∈ ksA L
 | [], u, hu, _, _, _ => by cases hu
 | x :: r, u, hu, hc, k, hk => by
   simp only [ksA]
   rcases List.mem_cons.1 hu with rfl | hu
   ·rw [isA_cl hc, hk]; simp
   ·have := ksA_mem hu hc k hk
    cases x.2.1.op.isA with
    | false => exact this
    | true => cases x.2.1.op.kx with
      | none => exact this
      | some k' => exact List.mem_cons_of_mem _ this
theorem deadK_ok {A : Ans} : ∀ {ks : List Nat}, deadK' ks rb t nx A = some L → (∀ k, k ∈ ks → (t.h (rb + k)).live = false ∧ rb + k < nx) ∧ A = some L
 | [], h => ⟨fun k hk => (by cases hk), h⟩
 | k :: ks, h => by
   change (fNa (rb + k) fun a => gT t a fun o => ifB (!o.o.live && Nat.blt a nx) (deadK' ks rb t nx A) none) = some L at h
   simp only [ac9, ak2] at h
   rcases p8 h with ⟨hb, h⟩ | ⟨_, h⟩
   ·simp only [Bool.and_eq_true, Bool.not_eq_true'] at hb
    obtain ⟨i1, i2⟩ := deadK_ok h
    refine ⟨fun k' hk' => ?_, i2⟩
    rcases List.mem_cons.1 hk' with rfl | hk'
    ·exact ⟨hb.1, bh9 hb.2⟩
    ·exact i1 k' hk'
   ·cases h
theorem wGval_spec {q : GOp} {kk : V → Ans} (h : wGval q e t kk = some L) : ∃ v, ap9 q (stO e t nx) = some v ∧ kk v = some L := by
 have key : ∀ x : AX, (wX x e t fun s => vS s kk) = some L → ∃ v, evX e.sl t.h x = some v ∧ kk v = some L := by
  intro x h
  obtain ⟨s, h1, h2⟩ := wX_spec x h
  rw [ao7] at h2
  exact ⟨_, h1, h2⟩
 obtain ⟨g, op⟩ := q
 rcases g with _ | ⟨j, want⟩
 ·cases op <;> first | (cases h; done) | exact key _ h
 ·cases op <;> first | (cases h; done) | skip
  rename_i d x
  change (gE j e fun v => vS v fun v => ob (af7 v) fun b => gvB b want (wX x e t fun s => vS s kk) (kk udf)) = some L at h
  rw [gE_eq, ao7] at h
  obtain ⟨b, h1, h2⟩ := u4 h
  have h1' : af7 ((stO e t nx).sl j) = some b := h1
  simp only [ap9, h1']
  rcases b with _ | b
  ·rw [if_neg (by simp)]
   cases want <;> exact ⟨_, rfl, h2⟩
  ·cases b <;> cases want
   ·rw [if_pos rfl]; exact key _ h2
   ·rw [if_neg (by simp)]; exact ⟨_, rfl, h2⟩
   ·rw [if_neg (by simp)]; exact ⟨_, rfl, h2⟩
   ·rw [if_pos rfl]; exact key _ h2
theorem rck_ok {all : List Tr} : ∀ {is : List Nat} {kk : List V → Ans}, rckK all is e t kk = some L → ∃ vs : List V, kk vs = some L ∧ vs.length = is.length ∧ ∀ (j i : Nat) (v : V), is[j]? = some i → vs[j]? = some v → ∃ q, au4 all i = some q ∧ ap9 q (stO e t nx) = some v
 | [], kk, h => ⟨[], h, rfl, fun j i v e1 => by simp at e1⟩
 | i :: is, kk, h => by
   change (ob (au4 all i) fun q => wGval q e t fun v => rckK all is e t fun l => kk (v :: l)) = some L at h
   obtain ⟨q, hq, h⟩ := u4 h
   obtain ⟨v, hv, h⟩ := wGval_spec (nx := nx) h
   obtain ⟨vs, h1, h2, h3⟩ := rck_ok h
   refine ⟨v :: vs, h1, by simp [h2], fun j i' v' e1 e2 => ?_⟩
   cases j with
   | zero => simp at e1 e2; subst e1 e2; exact ⟨q, hq, hv⟩
   | succ j => exact h3 j i' v' (by simpa using e1) (by simpa using e2)
theorem wDrw_ok (hn : be9 P np) (ha : AFOk P a) (hy : RFOk P y) {all : List Tr} : ∀ {M : List Tr} {e : Vn} {t : T} {nx : Nat}, (M.all fun o => dOk o.2.1.op.dst) = true → wDrw np a y all M rb e t nx k = some L → rwd P rb all M (KS k L) (stO e t nx)
 | [], e, t, nx, hl, h => kp_ok h
 | o :: r, e, t, nx, hl, h => by
   simp only [List.all_cons, Bool.and_eq_true] at hl
   change deadK' (ksA (o :: r)) rb t nx (match o.2.2 with
    | [] => wG np a y o.2.1 rb e t nx fun e t nx => wDrw np a y all r rb e t nx k
    | is => rckK all is e t fun vs => wG np a y o.2.1 rb e t nx fun e t nx => rckK all is e t fun ws => ifB (eqVs vs ws) (wDrw np a y all r rb e t nx k) none) = some L at h
   obtain ⟨hd, h⟩ := deadK_ok h
   refine ⟨fun u hu hc kk hk => hd kk (ksA_mem hu hc kk hk), ?_⟩
   split at h
   ·rename_i hnil
    refine aj8 (fun s hs => ?_) (wG_ok hn ha hy hl.1 h)
    obtain ⟨e', t', nx', rfl, h2⟩ := hs
    exact ⟨fun i hi => (by rw [hnil] at hi; cases hi), wDrw_ok hn ha hy hl.2 h2⟩
   ·obtain ⟨vs, h1, h2, h3⟩ := rck_ok (nx := nx) h
    refine aj8 (fun s hs => ?_) (wG_ok hn ha hy hl.1 h1)
    obtain ⟨e', t', nx', rfl, h4⟩ := hs
    obtain ⟨ws, h5, h6, h7⟩ := rck_ok (nx := nx') h4
    rcases p8 h5 with ⟨hb, h8⟩ | ⟨_, h8⟩
    ·have hvw := eqVs_ok hb
     refine ⟨fun i hi => ?_, wDrw_ok hn ha hy hl.2 h8⟩
     subst hvw
     obtain ⟨j, hj⟩ := List.mem_iff_getElem?.1 hi
     have hlt : j < vs.length := by rw [h2]; exact ai4 hj
     have hv : vs[j]? = some vs[j] := by simp [hlt]
     obtain ⟨q, q1, q2⟩ := h3 j i _ hj hv
     obtain ⟨q', q3, q4⟩ := h7 j i _ hj hv
     rw [q1] at q3
     cases q3
     exact ⟨q, vs[j], q1, q2, q4⟩
    ·cases h8
end
abbrev KX := Exit → Vn → T → Nat → Ans
def seqX (x : Exit) (e : Vn) (t : T) (nx : Nat) (next : KV) (k : KX) : Ans := match x with
 | .normal => next e t nx
 | x => k x e t nx
noncomputable def blkX (id : Nat) (x : Exit) (e : Vn) (t : T) (nx : Nat) (k : KX) : Ans := match x with
 | .exit i => ifB (Nat.beq i id) (k .normal e t nx) (k (.exit i) e t nx)
 | x => k x e t nx
def lpK (o : RO) (k : LoopState → Option (Option Nat) → Ans) : Ans := match o with
 | .lp _ _ _ _ stt pnd => k stt pnd
 | _ => none
def rdyK (s : LoopState) (A : Ans) : Ans := match s with
 | .busy => none
 | _ => A
def endX (pnd : Option (Option Nat)) (e : Vn) (t : T) (nx : Nat) (k : KX) : Ans := match pnd with
 | none => k .normal e t nx
 | some none => k .ret e t nx
 | some (some id) => k (.exit id) e t nx
noncomputable def slsK (m : List Nat) (e : Vn) : (List (Nat × S) → Ans) → Ans := List.rec (motive := fun _ => (List (Nat × S) → Ans) → Ans) (fun k => k []) (fun n _ ih k => gE n e fun v => ih fun l => k ((n, v) :: l)) m
theorem slsK_eq (e : Vn) : ∀ (m : List Nat) (k : List (Nat × S) → Ans), slsK m e k = k (m.map fun n => (n, e.at n))
 | [], k => rfl
 | n :: m, k => by
   show gE n e (fun v => slsK m e fun l => k ((n, v) :: l)) = _
   rw [gE_eq, slsK_eq e m]; rfl
noncomputable def wRfn (a : AFn) (m : List Nat) (x : AO) (ps : List Nat) (asg bd : ACode) (e : Vn) (t : T) (nx : Nat) (k : KX) : Ans := wO x e fun v => zK v fun v => match v with
 | .fn f fst caps => slsK m e fun sl => sT t nx (.lp ps asg bd sl .ready none) fun t => fNa (nx + 1) fun nx1 => sVs caps fun caps => sVs fst fun fst => appK [.w (.z (.yl nx))] caps fun l => appK fst l fun l => ob (a f l t nx1) fun o => outK o fun _ t nx2 => gT t nx fun o => lpK o fun stt pnd => rdyK stt (sT t nx .gone fun t => endX pnd e t nx2 k)
 | _ => none
noncomputable def wC (np : FuncId → Bool) (a : AFn) (y : RFn) (fuel : Nat) (c : ACode) : Vn → T → Nat → KX → Ans :=
 ACode.rec (motive := fun _ => Vn → T → Nat → KX → Ans)
  (fun e t nx k => k .normal e t nx)
  (fun na ops e t nx k => fNa (nx + na) fun nx1 => wOps np a y ops nx e t nx1 (k .normal))
  (fun na ops e t nx k => fNa (nx + na) fun nx1 => wDrw np a y ops ops nx e t nx1 (k .normal))
  (fun _ _ iha ihb e t nx k => iha e t nx fun x e t nx => seqX x e t nx (fun e t nx => ihb e t nx k) k)
  (fun c _ _ iha ihb e t nx k => wO c e fun v => sB v (iha e t nx k) (ihb e t nx k))
  (fun id _ iha e t nx k => iha e t nx fun x e t nx => blkX id x e t nx k)
  (fun _ iha e t nx k => Nat.rec (motive := fun _ => Vn → T → Nat → Ans) (fun _ _ _ => none) (fun _ ih e t nx => iha e t nx fun x e t nx => seqX x e t nx ih k) fuel e t nx)
  (fun id e t nx k => k (.exit id) e t nx)
  (fun e t nx k => k .ret e t nx)
  (fun _ _ _ _ => none)
  (fun m x ps asg bd _ _ e t nx k => wRfn a m x ps asg bd e t nx k) c
def ACode.dOk : ACode → Bool
 | .reg _ ops => ops.all fun o => B.dOk o.op.dst
 | .drw _ ops => ops.all fun o => B.dOk o.2.1.op.dst
 | .seq a b => a.dOk && b.dOk
 | .cond _ a b => a.dOk && b.dOk
 | .block _ a => a.dOk
 | .loop a => a.dOk
 | _ => true
def KE (k : KX) (L : Out) (x : Exit) (s : St) : Prop := KS (k x) L s
section
variable {P : Program} {a : AFn} {y : RFn} {np : FuncId → Bool} {L : Out}
theorem wC_ok (hn : be9 P np) (ha : AFOk P a) (hy : RFOk P y) (fuel : Nat) : ∀ (c : ACode) {e : Vn} {t : T} {nx : Nat} {k : KX}, c.dOk = true → wC np a y fuel c e t nx k = some L → awp P c (KE k L) (stO e t nx)
 | .skip, e, t, nx, k, hl, h => kp_ok (k := k .normal) h
 | .reg na ops, e, t, nx, k, hl, h => by
   change (fNa (nx + na) fun nx1 => wOps np a y ops nx e t nx1 (k .normal)) = some L at h
   rw [ac9] at h
   exact wOps_ok hn ha hy hl h
 | .drw na ops, e, t, nx, k, hl, h => by
   change (fNa (nx + na) fun nx1 => wDrw np a y ops ops nx e t nx1 (k .normal)) = some L at h
   rw [ac9] at h
   exact wDrw_ok hn ha hy hl h
 | .seq c d, e, t, nx, k, hl, h => by
   simp only [ACode.dOk, Bool.and_eq_true] at hl
   refine o6 (c := c) (fun x s hs => ?_) (wC_ok hn ha hy fuel c (k := fun x e t nx => seqX x e t nx (fun e t nx => wC np a y fuel d e t nx k) k) hl.1 h)
   obtain ⟨e', t', nx', rfl, h2⟩ := hs
   cases x <;> first
    | exact wC_ok hn ha hy fuel d hl.2 h2
    | exact ⟨e', t', nx', rfl, h2⟩
 | .cond c d d', e, t, nx, k, hl, h => by
   simp only [ACode.dOk, Bool.and_eq_true] at hl
   change wO c e (fun v => sB v (wC np a y fuel d e t nx k) (wC np a y fuel d' e t nx k)) = some L at h
   rw [z8] at h
   rcases sB_spec h with ⟨h1, h2⟩ | ⟨h1, h2⟩
   ·exact ⟨true, (ad2 c e).symm.trans h1, by rw [if_pos rfl]; exact wC_ok hn ha hy fuel d hl.1 h2⟩
   ·exact ⟨false, (ad2 c e).symm.trans h1, by rw [if_neg (by simp)]; exact wC_ok hn ha hy fuel d' hl.2 h2⟩
 | .block id c, e, t, nx, k, hl, h => by
   simp only [ACode.dOk] at hl
   refine o6 (c := c) (fun x s hs => ?_) (wC_ok hn ha hy fuel c (k := fun x e t nx => blkX id x e t nx k) hl h)
   obtain ⟨e', t', nx', rfl, h2⟩ := hs
   cases x <;> first
    | exact ⟨e', t', nx', rfl, h2⟩
    | (simp only [blkX] at h2
       simp only [blockA]
       rcases p8 h2 with ⟨hb, h2⟩ | ⟨hb, h2⟩
       ·rw [if_pos (Nat.eq_of_beq_eq_true hb)]; exact ⟨e', t', nx', rfl, h2⟩
       ·rw [if_neg (Nat.ne_of_beq_eq_false hb)]; exact ⟨e', t', nx', rfl, h2⟩)
 | .loop c, e, t, nx, k, hl, h => by
   simp only [ACode.dOk] at hl
   have key : ∀ (n : Nat) {e : Vn} {t : T} {nx : Nat}, (Nat.rec (motive := fun _ => Vn → T → Nat → Ans) (fun _ _ _ => none) (fun _ ih e t nx => wC np a y fuel c e t nx fun x e t nx => seqX x e t nx ih k) n e t nx) = some L → awp P (.loop c) (KE k L) (stO e t nx) := by
    intro n
    induction n with
    | zero => intro e t nx h; cases h
    | succ n ih =>
      intro e t nx h
      refine awp_loop (o6 (c := c) (fun x s hs => ?_) (wC_ok hn ha hy fuel c (k := fun x e t nx => seqX x e t nx (Nat.rec (motive := fun _ => Vn → T → Nat → Ans) (fun _ _ _ => none) (fun _ ih e t nx => wC np a y fuel c e t nx fun x e t nx => seqX x e t nx ih k) n) k) hl h))
      obtain ⟨e', t', nx', rfl, h2⟩ := hs
      cases x <;> first
       | exact ih h2
       | exact ⟨e', t', nx', rfl, h2⟩
   exact key fuel h
 | .exit id, e, t, nx, k, hl, h => kp_ok (k := k (.exit id)) h
 | .ret, e, t, nx, k, hl, h => kp_ok (k := k .ret) h
 | .bad, e, t, nx, k, hl, h => by cases h
 | .rfn m x ps asg bd, e, t, nx, k, hl, h => by
   change wRfn a m x ps asg bd e t nx k = some L at h
   simp only [wRfn, z8] at h
   have h := zK_spec h
   have hx : evO (stO e t nx).sl x = (wOv x e).v := (ad2 x e).symm
   cases hv : (wOv x e).v <;> rw [hv] at h <;> first | (cases h; done) | skip
   rename_i f fst caps
   simp only [slsK_eq, ac9] at h
   obtain ⟨t1, q1, h⟩ := af3 _ _ _ _ _ h
   obtain ⟨cs', e1, h⟩ := sVs_v _ _ h
   obtain ⟨fs', e2, h⟩ := sVs_v _ _ h
   simp only [av3] at h
   obtain ⟨⟨r, t2, nx2⟩, ho, h⟩ := u4 h
   simp only [outK, ak2] at h
   cases hb : t2.fn nx <;> rw [hb] at h <;> first | (cases h; done) | skip
   rename_i ps' asg' bd' sl' stt pnd
   have hs : stt ≠ .busy := by rintro rfl; cases h
   have h2 : (sT t2 nx .gone fun t => endX pnd e t nx2 k) = some L := by
    cases stt <;> first | exact h | exact absurd rfl hs
   obtain ⟨t3, q3, h3⟩ := af3 _ _ _ _ _ h2
   have hc := ha _ _ _ _ _ _ _ ho
   have hro : RO.o (.lp ps asg bd (m.map fun n => (n, e.at n)) .ready none) = .lp ps asg bd (m.map fun n => (n, e.sl n)) .ready none := by
    simp only [RO.o, List.map_map]; rfl
   rw [T.put_h q1, hro, List.map_append, e2, List.map_append, e1] at hc
   have hb' : t2.h nx = .lp ps' asg' bd' (sl'.map fun p => (p.1, p.2.v)) stt pnd := by show (t2.fn nx).o = _; rw [hb]; rfl
   refine ⟨f, fst, caps, r.v, t2.h, nx2, ps', asg', bd', _, stt, pnd, hx.trans hv, by rw [List.append_assoc]; exact hc, hb', hs, ?_⟩
   have hst : ({ sl := e.sl, h := upd t2.h nx .gone, nx := nx2, df := [] } : St) = stO e t3 nx2 := by simp only [stO, T.put_h q3]; rfl
   show endJ (KE k L) ({ sl := e.sl, h := upd t2.h nx .gone, nx := nx2, df := [] } : St) pnd
   rw [hst]
   rcases pnd with _ | _ | id
   ·exact ⟨e, t3, nx2, rfl, h3⟩
   ·exact ⟨e, t3, nx2, rfl, h3⟩
   ·exact ⟨e, t3, nx2, rfl, h3⟩
end
def AS : S → (A → Ans) → Ans := fun s k => match s with
 | .w x => k (.w x)
 | .ag cs => k (.ag cs)
 | .tu _ => none
theorem AS_spec {s : S} {k : A → Ans} {L : Out} (h : AS s k = some L) : ∃ x : A, x.v = s.v ∧ k x = some L := by
 cases s <;> first | (cases h; done) | exact ⟨.w _, rfl, h⟩ | exact ⟨.ag _, rfl, h⟩
noncomputable def wAr (r : AR) (e : Vn) (t : T) (k : S → Ans) : Ans := match r with
 | .s n => gE n e k
 | .c n m agg => gE n e fun v => ldK m agg t v k
noncomputable def wArs (l : List AR) (e : Vn) (t : T) : (List A → Ans) → Ans := List.rec (motive := fun _ => (List A → Ans) → Ans) (fun k => k []) (fun r _ ih k => wAr r e t fun x => AS x fun x => ih fun l => k (x :: l)) l
noncomputable def wRes (l : List AR) (e : Vn) (t : T) (k : S → Ans) : Ans := match l with
 | [r] => wAr r e t k
 | l => wArs l e t fun l => k (.tu l)
section
variable {e : Vn} {t : T} {nx : Nat} {L : Out}
theorem wAr_spec {r : AR} {k : S → Ans} (h : wAr r e t k = some L) : ∃ s : S, aEV (stO e t nx) r = some s.v ∧ k s = some L := by
 cases r with
 | s n => exact ⟨e.at n, rfl, by rw [← gE_eq n e k]; exact h⟩
 | c n m agg => exact wX_spec (e := e) (t := t) (.ld (.s n) m agg) h
theorem ay4 : ∀ {l : List AR} {k : List A → Ans}, wArs l e t k = some L → ∃ xs : List A, aEVs (stO e t nx) l = some (xs.map A.v) ∧ k xs = some L
 | [], k, h => ⟨[], rfl, h⟩
 | r :: l, k, h => by
   change wAr r e t (fun x => AS x fun x => wArs l e t fun l => k (x :: l)) = some L at h
   obtain ⟨s, h1, h2⟩ := wAr_spec (nx := nx) h
   obtain ⟨x, h3, h4⟩ := AS_spec h2
   obtain ⟨xs, h5, h6⟩ := ay4 h4
   exact ⟨x :: xs, by simp only [aEVs, h1, h5, List.map_cons, h3], h6⟩
theorem wRes_spec {l : List AR} {k : S → Ans} (h : wRes l e t k = some L) : ∃ s : S, an7 (stO e t nx) l = some s.v ∧ k s = some L := by
 rcases l with _ | ⟨r, _ | ⟨r', l⟩⟩
 ·obtain ⟨xs, h1, h2⟩ := ay4 (nx := nx) (show wArs [] e t (fun l => k (.tu l)) = some L from h)
  exact ⟨.tu xs, by simp only [an7, h1]; rfl, h2⟩
 ·exact wAr_spec h
 ·obtain ⟨xs, h1, h2⟩ := ay4 (nx := nx) (show wArs (r :: r' :: l) e t (fun l => k (.tu l)) = some L from h)
  exact ⟨.tu xs, by simp only [an7, h1]; rfl, h2⟩
end
abbrev Tab := FuncId → Option AF
def TabOk (P : Program) (tab : Tab) : Prop := ∀ f af, tab f = some af → ∃ fn, P.funcs[f]? = some fn ∧ j3 P fn af = true
noncomputable def retK (res : List AR) (x : Exit) (e : Vn) (t : T) (nx : Nat) : Ans := match x with
 | .normal | .ret => wRes res e t fun r => some (r, t, nx)
 | _ => none
noncomputable def iniE (xs : List S) : Nat → Vn → (Vn → Ans) → Ans := List.rec (motive := fun _ => Nat → Vn → (Vn → Ans) → Ans) (fun _ e k => k e) (fun x _ ih i e k => sE i x e fun e => ih (Nat.succ i) e k) xs
def iniV : List S → Nat → Vn → Vn
 | [], _, e => e
 | x :: xs, i, e => iniV xs (i + 1) (e.put i x)
theorem iniE_eq : ∀ (xs : List S) (i : Nat) (e : Vn) (k : Vn → Ans), iniE xs i e k = k (iniV xs i e)
 | [], i, e, k => rfl
 | x :: xs, i, e, k => by
   show sE i x e (fun e => iniE xs (i + 1) e k) = _
   rw [sE_eq, iniE_eq xs]; rfl
theorem iniV_sl : ∀ (xs : List S) (i : Nat) (e : Vn), i + xs.length ≤ 272 → (iniV xs i e).sl = fun j => if i ≤ j then (match (xs.map S.v)[j - i]? with | some x => x | none => e.sl j) else e.sl j
 | [], i, e, h => by funext j; simp [iniV]
 | x :: xs, i, e, h => by
   simp only [List.length_cons] at h
   funext j
   simp only [iniV]
   rw [iniV_sl xs (i + 1) _ (by omega), Vn.put_sl e x (by omega)]
   simp only [upd]
   by_cases h1 : i + 1 ≤ j
   ·rw [if_pos h1, if_pos (show i ≤ j by omega), show j - i = (j - (i + 1)) + 1 by omega, List.map_cons, List.getElem?_cons_succ, if_neg (show ¬ j = i by omega)]
   ·rw [if_neg h1]
    by_cases h2 : j = i
    ·subst h2; rw [if_pos rfl, if_pos (Nat.le_refl _)]; simp
    ·rw [if_neg h2, if_neg (show ¬ i ≤ j by omega)]
theorem undV_sl : undV.sl = fun _ => .und := by unfold Vn.sl; rw [undV_at]; rfl
theorem iniV_init (xs : List S) (h : xs.length ≤ 272) : (iniV xs 0 undV).sl = fun s => (xs.map S.v).getD s .und := by
 rw [iniV_sl xs 0 undV (by omega), undV_sl]
 funext j
 rw [if_pos (Nat.zero_le _), Nat.sub_zero, List.getD_eq_getElem?_getD]
 cases (xs.map S.v)[j]? <;> rfl
def AF.ok (af : AF) : Bool := Nat.ble af.nt 272 && af.body.dOk
noncomputable def callA (tab : Tab) (np : FuncId → Bool) (a : AFn) (y : RFn) (fuel : Nat) (f : FuncId) (xs : List S) (t : T) (nx : Nat) : Option Out := match tab f with
 | some af => ifB (af.ok) (ifB (Nat.ble xs.length af.nt) (iniE xs 0 undV fun e => wC np a y fuel af.body e t nx (retK af.res)) none) none
 | none => none
noncomputable def inSl (sl : List (Nat × S)) : (Vn → Ans) → Ans := List.rec (motive := fun _ => (Vn → Ans) → Ans) (fun k => k undV) (fun p _ ih k => Prod.rec (motive := fun _ => Ans) (fun n v => ih fun e => sE n v e k) p) sl
noncomputable def putPs (ps : List Nat) : List S → Vn → (Vn → Ans) → Ans := List.rec (motive := fun _ => List S → Vn → (Vn → Ans) → Ans) (fun _ e k => k e) (fun p _ ih xs e k => List.rec (motive := fun _ => Ans) (k e) (fun x xs _ => sE p x e fun e => ih xs e k) xs) ps
def rndOk (ps : List Nat) (asg bd : ACode) (sl : List (Nat × S)) : Bool := asg.dOk && (bd.dOk && (ps.all (Nat.blt · 272) && sl.all fun p => Nat.blt p.1 272))
def rdy1 (o : RO) (k : List Nat → ACode → ACode → List (Nat × S) → Ans) : Ans := match o with
 | .lp ps asg bd sl .ready none => k ps asg bd sl
 | _ => none
def lp1 (o : RO) (k : List Nat → ACode → ACode → List (Nat × S) → Ans) : Ans := match o with
 | .lp ps asg bd sl _ _ => k ps asg bd sl
 | _ => none
def norX (x : Exit) (A : Ans) : Ans := match x with
 | .normal => A
 | _ => none
noncomputable def rndEnd (i : Nat) (x : Exit) (e : Vn) (t : T) (nx : Nat) : Ans := ob (rndE x) fun q => match q with
 | (b, stt, pnd) => gT t i fun o => lp1 o fun ps asg bd sl => sT t i (.lp ps asg bd sl stt pnd) fun t => some (.w (.b b), t, nx)
noncomputable def callR (np : FuncId → Bool) (a : AFn) (y : RFn) (fuel : Nat) (i : Nat) (xs : List S) (t : T) (nx : Nat) : Option Out := gT t i fun o => rdy1 o fun ps asg bd sl => ifB (rndOk ps asg bd sl) (eqNK xs.length ps.length (inSl sl fun e => putPs ps xs e fun e =>
 wC np a y fuel asg e t nx fun x e t nx => norX x (gT t i fun o => rdy1 o fun ps1 asg1 bd1 sl1 => sT t i (.lp ps1 asg1 bd1 sl1 .busy none) fun t => wC np a y fuel bd e t nx (rndEnd i)))) none
structure Clls where
 a : AFn
 y : RFn
noncomputable def clls (tab : Tab) (np : FuncId → Bool) (known : AFn) (fuel : Nat) (n : Nat) : Clls := Nat.rec (motive := fun _ => Clls) ⟨fun _ _ _ _ => none, fun _ _ _ _ => none⟩
 (fun _ ih => ⟨fun f xs t nx => match known f xs t nx with
   | some r => some r
   | none => callA tab np ih.a ih.y fuel f xs t nx, callR np ih.a ih.y fuel⟩) n
section
variable {P : Program} [iop : OkP P] {a : AFn} {y : RFn} {np : FuncId → Bool} {tab : Tab}
theorem callA_ok (ht : TabOk P tab) (hn : be9 P np) (ha : AFOk P a) (hy : RFOk P y) (fuel : Nat) : AFOk P (callA tab np a y fuel) := by
 intro f xs t nx r t' nx' hcall
 unfold callA at hcall
 split at hcall
 ·rename_i af hf
  obtain ⟨fn, h1, h2⟩ := ht f af hf
  rcases p8 hcall with ⟨hc, hcall⟩ | ⟨_, hcall⟩
  rotate_left
  ·cases hcall
  rcases p8 hcall with ⟨c4, hcall⟩ | ⟨_, hcall⟩
  rotate_left
  ·cases hcall
  simp only [AF.ok, Bool.and_eq_true] at hc
  have c4 := Nat.le_of_ble_eq_true c4
  have c1 := Nat.le_of_ble_eq_true hc.1
  rw [iniE_eq] at hcall
  refine aw1 h1 h2 (by simpa using c4) ?_
  have hst : au5 (xs.map S.v) t.h nx = stO (iniV xs 0 undV) t nx := by simp only [au5, stO, iniV_init xs (by omega)]
  rw [hst]
  refine o6 (fun x s hs => ?_) (wC_ok hn ha hy fuel af.body hc.2 hcall)
  obtain ⟨e', t2, nx2, rfl, q2⟩ := hs
  cases x <;> simp only [retK] at q2 <;> first | (cases q2; done) | skip
  all_goals
   obtain ⟨r2, hr2, q2⟩ := wRes_spec (nx := nx2) q2
   cases q2
   exact ⟨hr2, rfl, rfl⟩
 ·cases hcall
theorem inSl_sl : ∀ (sl : List (Nat × S)) (k : Vn → Ans), (sl.all fun p => Nat.blt p.1 272) = true → ∃ e : Vn, inSl sl k = k e ∧ e.sl = slOf (sl.map fun p => (p.1, p.2.v))
 | [], k, _ => ⟨undV, rfl, undV_sl⟩
 | (n, v) :: sl, k, h => by
   simp only [List.all_cons, Bool.and_eq_true] at h
   obtain ⟨e, h1, h2⟩ := inSl_sl sl (fun e => sE n v e k) h.2
   refine ⟨e.put n v, ?_, ?_⟩
   ·show inSl sl (fun e => sE n v e k) = _
    rw [h1, sE_eq]
   ·rw [Vn.put_sl e v (bh9 h.1), h2]
    funext s; simp [slOf, upd]
theorem putPs_ok : ∀ (ps : List Nat) (xs : List S) (e : Vn) (k : Vn → Ans), ps.all (Nat.blt · 272) = true → ∃ e' : Vn, putPs ps xs e k = k e' ∧ e'.sl = az0 e.sl ps (xs.map S.v)
 | [], xs, e, k, hp => ⟨e, rfl, by simp [az0]⟩
 | p :: ps, [], e, k, hp => ⟨e, rfl, by simp [az0]⟩
 | p :: ps, x :: xs, e, k, hp => by
   simp only [List.all_cons, Bool.and_eq_true] at hp
   obtain ⟨e', h1, h2⟩ := putPs_ok ps xs (e.put p x) k hp.2
   refine ⟨e', ?_, ?_⟩
   ·show sE p x e (fun e => putPs ps xs e k) = _
    rw [sE_eq]; exact h1
   ·rw [h2, Vn.put_sl e x (bh9 hp.1)]; rfl
theorem rdy1_spec {o : RO} {k : List Nat → ACode → ACode → List (Nat × S) → Ans} {L : Out} (h : rdy1 o k = some L) : ∃ ps asg bd sl, o = .lp ps asg bd sl .ready none ∧ k ps asg bd sl = some L := by
 unfold rdy1 at h
 split at h
 ·exact ⟨_, _, _, _, rfl, h⟩
 ·cases h
theorem lp1_spec {o : RO} {k : List Nat → ACode → ACode → List (Nat × S) → Ans} {L : Out} (h : lp1 o k = some L) : ∃ ps asg bd sl s p, o = .lp ps asg bd sl s p ∧ k ps asg bd sl = some L := by
 unfold lp1 at h
 split at h
 ·exact ⟨_, _, _, _, _, _, rfl, h⟩
 ·cases h
theorem norX_spec {x : Exit} {A : Ans} {L : Out} (h : norX x A = some L) : x = .normal ∧ A = some L := by
 cases x <;> first | exact ⟨rfl, h⟩ | cases h
theorem callR_ok (hn : be9 P np) (ha : AFOk P a) (hy : RFOk P y) (fuel : Nat) : RFOk P (callR np a y fuel) := by
 intro i xs t nx r t' nx' h0
 unfold callR at h0
 rw [ak2] at h0
 obtain ⟨ps, asg, bd, sl, hb, h1⟩ := rdy1_spec h0
 rcases p8 h1 with ⟨hok, h2⟩ | ⟨_, h2⟩
 rotate_left
 ·cases h2
 simp only [rndOk, Bool.and_eq_true] at hok
 obtain ⟨o1, o2, o3, o4⟩ := hok
 obtain ⟨hlen, h3⟩ := af8 h2
 obtain ⟨e0, h4, h5⟩ := inSl_sl sl _ o4
 rw [h4] at h3
 obtain ⟨e1, h6, h7⟩ := putPs_ok ps xs e0 _ o3
 rw [h6] at h3
 have hst : ({ sl := az0 (slOf (sl.map fun p => (p.1, p.2.v))) ps (xs.map S.v), h := t.h, nx := nx, df := [] } : St) = stO e1 t nx := by simp only [stO, h7, h5]
 have hb' : t.h i = .lp ps asg bd (sl.map fun p => (p.1, p.2.v)) .ready none := by show (t.fn i).o = _; rw [hb]; rfl
 refine rcalls_intro hb' (by simpa using hlen) ?_
 rw [hst]
 refine o6 (fun x s hs => ?_) (wC_ok hn ha hy fuel asg o1 h3)
 obtain ⟨e2, t2, nx2, rfl, q2⟩ := hs
 obtain ⟨rfl, q3⟩ := norX_spec q2
 rw [ak2] at q3
 obtain ⟨ps1, asg1, bd1, sl1, hb1, q4⟩ := rdy1_spec q3
 obtain ⟨t3, q5, q6⟩ := af3 _ _ _ _ _ q4
 have hb1' : t2.h i = .lp ps1 asg1 bd1 (sl1.map fun p => (p.1, p.2.v)) .ready none := by show (t2.fn i).o = _; rw [hb1]; rfl
 refine ⟨rfl, ps1, asg1, bd1, _, hb1', ?_⟩
 have hst2 : ({ stO e2 t2 nx2 with h := upd t2.h i (.lp ps1 asg1 bd1 (sl1.map fun p => (p.1, p.2.v)) .busy none) } : St) = stO e2 t3 nx2 := by simp only [stO, T.put_h q5]; rfl
 show awp P bd _ ({ stO e2 t2 nx2 with h := upd t2.h i (.lp ps1 asg1 bd1 (sl1.map fun p => (p.1, p.2.v)) .busy none) } : St)
 rw [hst2]
 refine o6 (fun x s2 hs => ?_) (wC_ok hn ha hy fuel bd o2 q6)
 obtain ⟨e4, t4, nx4, rfl, r2⟩ := hs
 obtain ⟨⟨b, stt, pnd⟩, hx, r3⟩ := u4 r2
 simp only [ak2] at r3
 obtain ⟨ps2, asg2, bd2, sl2, s0, p0, hb2, r4⟩ := lp1_spec r3
 obtain ⟨t5, r5, r6⟩ := af3 _ _ _ _ _ r4
 cases r6
 have hb2' : t4.h i = .lp ps2 asg2 bd2 (sl2.map fun p => (p.1, p.2.v)) s0 p0 := by show (t4.fn i).o = _; rw [hb2]; rfl
 exact ⟨b, stt, pnd, ps2, asg2, bd2, _, s0, p0, hx, hb2', rfl, T.put_h r5, rfl⟩
theorem clls_ok (ht : TabOk P tab) (hn : be9 P np) {known : AFn} (hk : AFOk P known) (fuel : Nat) : ∀ n, AFOk P (clls tab np known fuel n).a ∧ RFOk P (clls tab np known fuel n).y
 | 0 => ⟨fun f xs t nx r t' nx' h => (by cases h), fun i xs t nx r t' nx' h => (by cases h)⟩
 | n + 1 => by
   obtain ⟨h1, h2⟩ := clls_ok ht hn hk fuel n
   refine ⟨fun f xs t nx r t' nx' h => ?_, callR_ok hn h1 h2 fuel⟩
   change (match known f xs t nx with | some r => some r | none => callA tab np (clls tab np known fuel n).a (clls tab np known fuel n).y fuel f xs t nx) = some (r, t', nx') at h
   split at h
   ·rename_i r' hr; cases h; exact hk _ _ _ _ _ _ _ hr
   ·exact callA_ok ht hn h1 h2 fuel _ _ _ _ _ _ _ h
end
end Go.B
