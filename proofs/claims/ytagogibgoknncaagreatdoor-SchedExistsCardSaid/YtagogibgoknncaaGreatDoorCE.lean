/-
  A staged runner: codes become functions once, what they become is kept by the kernel (its argument is a closed term). Program-independent.
-/
import Derived.Test.YtagogibgoknncaaGreatDoorCD
set_option linter.unusedVariables false
set_option linter.unusedSimpArgs false
set_option linter.unusedSectionVars false
namespace Go.B
variable [iok : OkC]
inductive FM where
 | mk (f : Vn → (N16 → Ans) → Ans)
inductive FN where
 | mk (f : N16 → (S → Ans) → Ans)
inductive FMU where
 | mk (f : (N16 → (N16 → Ans) → Ans) → Vn → (Vn → Ans) → Ans)
inductive FNU where
 | mk (f : S → N16 → (N16 → Ans) → Ans)
inductive FG where
 | mk (f : Vn → (S → Ans) → Ans)
inductive FU where
 | mk (f : S → Vn → (Vn → Ans) → Ans)
inductive FL where
 | mk (f : Vn → (List S → Ans) → Ans)
inductive FX where
 | mk (f : Vn → T → (S → Ans) → Ans)
inductive FP where
 | mk (f : Nat → Vn → T → Nat → KV → Ans)
inductive FC where
 | mk (f : Vn → T → Nat → KV → KX → Ans)
def FM.f : FM → Vn → (N16 → Ans) → Ans | .mk f => f
def FN.f : FN → N16 → (S → Ans) → Ans | .mk f => f
def FMU.f : FMU → (N16 → (N16 → Ans) → Ans) → Vn → (Vn → Ans) → Ans | .mk f => f
def FNU.f : FNU → S → N16 → (N16 → Ans) → Ans | .mk f => f
def FG.f : FG → Vn → (S → Ans) → Ans | .mk f => f
def FU.f : FU → S → Vn → (Vn → Ans) → Ans | .mk f => f
def FL.f : FL → Vn → (List S → Ans) → Ans | .mk f => f
def FX.f : FX → Vn → T → (S → Ans) → Ans | .mk f => f
def FP.f : FP → Nat → Vn → T → Nat → KV → Ans | .mk f => f
def FC.f : FC → Vn → T → Nat → KV → KX → Ans | .mk f => f
noncomputable def mG (a : D18) : FM := D18.rec (motive := fun _ => FM) (.mk fun e k => Vn.rec (motive := fun _ => Ans) (fun x0 _ _ _ _ _ _ _ _ _ _ _ _ _ _ _ _ _ => k x0) e) (.mk fun e k => Vn.rec (motive := fun _ => Ans) (fun _ x1 _ _ _ _ _ _ _ _ _ _ _ _ _ _ _ _ => k x1) e) (.mk fun e k => Vn.rec (motive := fun _ => Ans) (fun _ _ x2 _ _ _ _ _ _ _ _ _ _ _ _ _ _ _ => k x2) e) (.mk fun e k => Vn.rec (motive := fun _ => Ans) (fun _ _ _ x3 _ _ _ _ _ _ _ _ _ _ _ _ _ _ => k x3) e) (.mk fun e k => Vn.rec (motive := fun _ => Ans) (fun _ _ _ _ x4 _ _ _ _ _ _ _ _ _ _ _ _ _ => k x4) e) (.mk fun e k => Vn.rec (motive := fun _ => Ans) (fun _ _ _ _ _ x5 _ _ _ _ _ _ _ _ _ _ _ _ => k x5) e) (.mk fun e k => Vn.rec (motive := fun _ => Ans) (fun _ _ _ _ _ _ x6 _ _ _ _ _ _ _ _ _ _ _ => k x6) e) (.mk fun e k => Vn.rec (motive := fun _ => Ans) (fun _ _ _ _ _ _ _ x7 _ _ _ _ _ _ _ _ _ _ => k x7) e) (.mk fun e k => Vn.rec (motive := fun _ => Ans) (fun _ _ _ _ _ _ _ _ x8 _ _ _ _ _ _ _ _ _ => k x8) e) (.mk fun e k => Vn.rec (motive := fun _ => Ans) (fun _ _ _ _ _ _ _ _ _ x9 _ _ _ _ _ _ _ _ => k x9) e) (.mk fun e k => Vn.rec (motive := fun _ => Ans) (fun _ _ _ _ _ _ _ _ _ _ x10 _ _ _ _ _ _ _ => k x10) e) (.mk fun e k => Vn.rec (motive := fun _ => Ans) (fun _ _ _ _ _ _ _ _ _ _ _ x11 _ _ _ _ _ _ => k x11) e) (.mk fun e k => Vn.rec (motive := fun _ => Ans) (fun _ _ _ _ _ _ _ _ _ _ _ _ x12 _ _ _ _ _ => k x12) e) (.mk fun e k => Vn.rec (motive := fun _ => Ans) (fun _ _ _ _ _ _ _ _ _ _ _ _ _ x13 _ _ _ _ => k x13) e) (.mk fun e k => Vn.rec (motive := fun _ => Ans) (fun _ _ _ _ _ _ _ _ _ _ _ _ _ _ x14 _ _ _ => k x14) e) (.mk fun e k => Vn.rec (motive := fun _ => Ans) (fun _ _ _ _ _ _ _ _ _ _ _ _ _ _ _ x15 _ _ => k x15) e) (.mk fun e k => Vn.rec (motive := fun _ => Ans) (fun _ _ _ _ _ _ _ _ _ _ _ _ _ _ _ _ x16 _ => k x16) e) (.mk fun e k => Vn.rec (motive := fun _ => Ans) (fun _ _ _ _ _ _ _ _ _ _ _ _ _ _ _ _ _ x17 => k x17) e) a
noncomputable def nG (a : D16) : FN := D16.rec (motive := fun _ => FN) (.mk fun e k => N16.rec (motive := fun _ => Ans) (fun y0 _ _ _ _ _ _ _ _ _ _ _ _ _ _ _ => k y0) e) (.mk fun e k => N16.rec (motive := fun _ => Ans) (fun _ y1 _ _ _ _ _ _ _ _ _ _ _ _ _ _ => k y1) e) (.mk fun e k => N16.rec (motive := fun _ => Ans) (fun _ _ y2 _ _ _ _ _ _ _ _ _ _ _ _ _ => k y2) e) (.mk fun e k => N16.rec (motive := fun _ => Ans) (fun _ _ _ y3 _ _ _ _ _ _ _ _ _ _ _ _ => k y3) e) (.mk fun e k => N16.rec (motive := fun _ => Ans) (fun _ _ _ _ y4 _ _ _ _ _ _ _ _ _ _ _ => k y4) e) (.mk fun e k => N16.rec (motive := fun _ => Ans) (fun _ _ _ _ _ y5 _ _ _ _ _ _ _ _ _ _ => k y5) e) (.mk fun e k => N16.rec (motive := fun _ => Ans) (fun _ _ _ _ _ _ y6 _ _ _ _ _ _ _ _ _ => k y6) e) (.mk fun e k => N16.rec (motive := fun _ => Ans) (fun _ _ _ _ _ _ _ y7 _ _ _ _ _ _ _ _ => k y7) e) (.mk fun e k => N16.rec (motive := fun _ => Ans) (fun _ _ _ _ _ _ _ _ y8 _ _ _ _ _ _ _ => k y8) e) (.mk fun e k => N16.rec (motive := fun _ => Ans) (fun _ _ _ _ _ _ _ _ _ y9 _ _ _ _ _ _ => k y9) e) (.mk fun e k => N16.rec (motive := fun _ => Ans) (fun _ _ _ _ _ _ _ _ _ _ y10 _ _ _ _ _ => k y10) e) (.mk fun e k => N16.rec (motive := fun _ => Ans) (fun _ _ _ _ _ _ _ _ _ _ _ y11 _ _ _ _ => k y11) e) (.mk fun e k => N16.rec (motive := fun _ => Ans) (fun _ _ _ _ _ _ _ _ _ _ _ _ y12 _ _ _ => k y12) e) (.mk fun e k => N16.rec (motive := fun _ => Ans) (fun _ _ _ _ _ _ _ _ _ _ _ _ _ y13 _ _ => k y13) e) (.mk fun e k => N16.rec (motive := fun _ => Ans) (fun _ _ _ _ _ _ _ _ _ _ _ _ _ _ y14 _ => k y14) e) (.mk fun e k => N16.rec (motive := fun _ => Ans) (fun _ _ _ _ _ _ _ _ _ _ _ _ _ _ _ y15 => k y15) e) a
noncomputable def mU (a : D18) : FMU := D18.rec (motive := fun _ => FMU) (.mk fun u e k => Vn.rec (motive := fun _ => Ans) (fun x0 x1 x2 x3 x4 x5 x6 x7 x8 x9 x10 x11 x12 x13 x14 x15 x16 x17 => u x0 fun r => k (.mk r x1 x2 x3 x4 x5 x6 x7 x8 x9 x10 x11 x12 x13 x14 x15 x16 x17)) e) (.mk fun u e k => Vn.rec (motive := fun _ => Ans) (fun x0 x1 x2 x3 x4 x5 x6 x7 x8 x9 x10 x11 x12 x13 x14 x15 x16 x17 => u x1 fun r => k (.mk x0 r x2 x3 x4 x5 x6 x7 x8 x9 x10 x11 x12 x13 x14 x15 x16 x17)) e) (.mk fun u e k => Vn.rec (motive := fun _ => Ans) (fun x0 x1 x2 x3 x4 x5 x6 x7 x8 x9 x10 x11 x12 x13 x14 x15 x16 x17 => u x2 fun r => k (.mk x0 x1 r x3 x4 x5 x6 x7 x8 x9 x10 x11 x12 x13 x14 x15 x16 x17)) e) (.mk fun u e k => Vn.rec (motive := fun _ => Ans) (fun x0 x1 x2 x3 x4 x5 x6 x7 x8 x9 x10 x11 x12 x13 x14 x15 x16 x17 => u x3 fun r => k (.mk x0 x1 x2 r x4 x5 x6 x7 x8 x9 x10 x11 x12 x13 x14 x15 x16 x17)) e) (.mk fun u e k => Vn.rec (motive := fun _ => Ans) (fun x0 x1 x2 x3 x4 x5 x6 x7 x8 x9 x10 x11 x12 x13 x14 x15 x16 x17 => u x4 fun r => k (.mk x0 x1 x2 x3 r x5 x6 x7 x8 x9 x10 x11 x12 x13 x14 x15 x16 x17)) e) (.mk fun u e k => Vn.rec (motive := fun _ => Ans) (fun x0 x1 x2 x3 x4 x5 x6 x7 x8 x9 x10 x11 x12 x13 x14 x15 x16 x17 => u x5 fun r => k (.mk x0 x1 x2 x3 x4 r x6 x7 x8 x9 x10 x11 x12 x13 x14 x15 x16 x17)) e) (.mk fun u e k => Vn.rec (motive := fun _ => Ans) (fun x0 x1 x2 x3 x4 x5 x6 x7 x8 x9 x10 x11 x12 x13 x14 x15 x16 x17 => u x6 fun r => k (.mk x0 x1 x2 x3 x4 x5 r x7 x8 x9 x10 x11 x12 x13 x14 x15 x16 x17)) e) (.mk fun u e k => Vn.rec (motive := fun _ => Ans) (fun x0 x1 x2 x3 x4 x5 x6 x7 x8 x9 x10 x11 x12 x13 x14 x15 x16 x17 => u x7 fun r => k (.mk x0 x1 x2 x3 x4 x5 x6 r x8 x9 x10 x11 x12 x13 x14 x15 x16 x17)) e) (.mk fun u e k => Vn.rec (motive := fun _ => Ans) (fun x0 x1 x2 x3 x4 x5 x6 x7 x8 x9 x10 x11 x12 x13 x14 x15 x16 x17 => u x8 fun r => k (.mk x0 x1 x2 x3 x4 x5 x6 x7 r x9 x10 x11 x12 x13 x14 x15 x16 x17)) e) (.mk fun u e k => Vn.rec (motive := fun _ => Ans) (fun x0 x1 x2 x3 x4 x5 x6 x7 x8 x9 x10 x11 x12 x13 x14 x15 x16 x17 => u x9 fun r => k (.mk x0 x1 x2 x3 x4 x5 x6 x7 x8 r x10 x11 x12 x13 x14 x15 x16 x17)) e) (.mk fun u e k => Vn.rec (motive := fun _ => Ans) (fun x0 x1 x2 x3 x4 x5 x6 x7 x8 x9 x10 x11 x12 x13 x14 x15 x16 x17 => u x10 fun r => k (.mk x0 x1 x2 x3 x4 x5 x6 x7 x8 x9 r x11 x12 x13 x14 x15 x16 x17)) e) (.mk fun u e k => Vn.rec (motive := fun _ => Ans) (fun x0 x1 x2 x3 x4 x5 x6 x7 x8 x9 x10 x11 x12 x13 x14 x15 x16 x17 => u x11 fun r => k (.mk x0 x1 x2 x3 x4 x5 x6 x7 x8 x9 x10 r x12 x13 x14 x15 x16 x17)) e) (.mk fun u e k => Vn.rec (motive := fun _ => Ans) (fun x0 x1 x2 x3 x4 x5 x6 x7 x8 x9 x10 x11 x12 x13 x14 x15 x16 x17 => u x12 fun r => k (.mk x0 x1 x2 x3 x4 x5 x6 x7 x8 x9 x10 x11 r x13 x14 x15 x16 x17)) e) (.mk fun u e k => Vn.rec (motive := fun _ => Ans) (fun x0 x1 x2 x3 x4 x5 x6 x7 x8 x9 x10 x11 x12 x13 x14 x15 x16 x17 => u x13 fun r => k (.mk x0 x1 x2 x3 x4 x5 x6 x7 x8 x9 x10 x11 x12 r x14 x15 x16 x17)) e) (.mk fun u e k => Vn.rec (motive := fun _ => Ans) (fun x0 x1 x2 x3 x4 x5 x6 x7 x8 x9 x10 x11 x12 x13 x14 x15 x16 x17 => u x14 fun r => k (.mk x0 x1 x2 x3 x4 x5 x6 x7 x8 x9 x10 x11 x12 x13 r x15 x16 x17)) e) (.mk fun u e k => Vn.rec (motive := fun _ => Ans) (fun x0 x1 x2 x3 x4 x5 x6 x7 x8 x9 x10 x11 x12 x13 x14 x15 x16 x17 => u x15 fun r => k (.mk x0 x1 x2 x3 x4 x5 x6 x7 x8 x9 x10 x11 x12 x13 x14 r x16 x17)) e) (.mk fun u e k => Vn.rec (motive := fun _ => Ans) (fun x0 x1 x2 x3 x4 x5 x6 x7 x8 x9 x10 x11 x12 x13 x14 x15 x16 x17 => u x16 fun r => k (.mk x0 x1 x2 x3 x4 x5 x6 x7 x8 x9 x10 x11 x12 x13 x14 x15 r x17)) e) (.mk fun u e k => Vn.rec (motive := fun _ => Ans) (fun x0 x1 x2 x3 x4 x5 x6 x7 x8 x9 x10 x11 x12 x13 x14 x15 x16 x17 => u x17 fun r => k (.mk x0 x1 x2 x3 x4 x5 x6 x7 x8 x9 x10 x11 x12 x13 x14 x15 x16 r)) e) a
noncomputable def nU (a : D16) : FNU := D16.rec (motive := fun _ => FNU) (.mk fun v e k => N16.rec (motive := fun _ => Ans) (fun _ y1 y2 y3 y4 y5 y6 y7 y8 y9 y10 y11 y12 y13 y14 y15 => k (.mk v y1 y2 y3 y4 y5 y6 y7 y8 y9 y10 y11 y12 y13 y14 y15)) e) (.mk fun v e k => N16.rec (motive := fun _ => Ans) (fun y0 _ y2 y3 y4 y5 y6 y7 y8 y9 y10 y11 y12 y13 y14 y15 => k (.mk y0 v y2 y3 y4 y5 y6 y7 y8 y9 y10 y11 y12 y13 y14 y15)) e) (.mk fun v e k => N16.rec (motive := fun _ => Ans) (fun y0 y1 _ y3 y4 y5 y6 y7 y8 y9 y10 y11 y12 y13 y14 y15 => k (.mk y0 y1 v y3 y4 y5 y6 y7 y8 y9 y10 y11 y12 y13 y14 y15)) e) (.mk fun v e k => N16.rec (motive := fun _ => Ans) (fun y0 y1 y2 _ y4 y5 y6 y7 y8 y9 y10 y11 y12 y13 y14 y15 => k (.mk y0 y1 y2 v y4 y5 y6 y7 y8 y9 y10 y11 y12 y13 y14 y15)) e) (.mk fun v e k => N16.rec (motive := fun _ => Ans) (fun y0 y1 y2 y3 _ y5 y6 y7 y8 y9 y10 y11 y12 y13 y14 y15 => k (.mk y0 y1 y2 y3 v y5 y6 y7 y8 y9 y10 y11 y12 y13 y14 y15)) e) (.mk fun v e k => N16.rec (motive := fun _ => Ans) (fun y0 y1 y2 y3 y4 _ y6 y7 y8 y9 y10 y11 y12 y13 y14 y15 => k (.mk y0 y1 y2 y3 y4 v y6 y7 y8 y9 y10 y11 y12 y13 y14 y15)) e) (.mk fun v e k => N16.rec (motive := fun _ => Ans) (fun y0 y1 y2 y3 y4 y5 _ y7 y8 y9 y10 y11 y12 y13 y14 y15 => k (.mk y0 y1 y2 y3 y4 y5 v y7 y8 y9 y10 y11 y12 y13 y14 y15)) e) (.mk fun v e k => N16.rec (motive := fun _ => Ans) (fun y0 y1 y2 y3 y4 y5 y6 _ y8 y9 y10 y11 y12 y13 y14 y15 => k (.mk y0 y1 y2 y3 y4 y5 y6 v y8 y9 y10 y11 y12 y13 y14 y15)) e) (.mk fun v e k => N16.rec (motive := fun _ => Ans) (fun y0 y1 y2 y3 y4 y5 y6 y7 _ y9 y10 y11 y12 y13 y14 y15 => k (.mk y0 y1 y2 y3 y4 y5 y6 y7 v y9 y10 y11 y12 y13 y14 y15)) e) (.mk fun v e k => N16.rec (motive := fun _ => Ans) (fun y0 y1 y2 y3 y4 y5 y6 y7 y8 _ y10 y11 y12 y13 y14 y15 => k (.mk y0 y1 y2 y3 y4 y5 y6 y7 y8 v y10 y11 y12 y13 y14 y15)) e) (.mk fun v e k => N16.rec (motive := fun _ => Ans) (fun y0 y1 y2 y3 y4 y5 y6 y7 y8 y9 _ y11 y12 y13 y14 y15 => k (.mk y0 y1 y2 y3 y4 y5 y6 y7 y8 y9 v y11 y12 y13 y14 y15)) e) (.mk fun v e k => N16.rec (motive := fun _ => Ans) (fun y0 y1 y2 y3 y4 y5 y6 y7 y8 y9 y10 _ y12 y13 y14 y15 => k (.mk y0 y1 y2 y3 y4 y5 y6 y7 y8 y9 y10 v y12 y13 y14 y15)) e) (.mk fun v e k => N16.rec (motive := fun _ => Ans) (fun y0 y1 y2 y3 y4 y5 y6 y7 y8 y9 y10 y11 _ y13 y14 y15 => k (.mk y0 y1 y2 y3 y4 y5 y6 y7 y8 y9 y10 y11 v y13 y14 y15)) e) (.mk fun v e k => N16.rec (motive := fun _ => Ans) (fun y0 y1 y2 y3 y4 y5 y6 y7 y8 y9 y10 y11 y12 _ y14 y15 => k (.mk y0 y1 y2 y3 y4 y5 y6 y7 y8 y9 y10 y11 y12 v y14 y15)) e) (.mk fun v e k => N16.rec (motive := fun _ => Ans) (fun y0 y1 y2 y3 y4 y5 y6 y7 y8 y9 y10 y11 y12 y13 _ y15 => k (.mk y0 y1 y2 y3 y4 y5 y6 y7 y8 y9 y10 y11 y12 y13 v y15)) e) (.mk fun v e k => N16.rec (motive := fun _ => Ans) (fun y0 y1 y2 y3 y4 y5 y6 y7 y8 y9 y10 y11 y12 y13 y14 _ => k (.mk y0 y1 y2 y3 y4 y5 y6 y7 y8 y9 y10 y11 y12 y13 y14 v)) e) a
theorem mG_eq (a : D18) (e : Vn) (k : N16 → Ans) : (mG a).f e k = k (e.get a) := by cases e; cases a <;> rfl
theorem nG_eq (a : D16) (e : N16) (k : S → Ans) : (nG a).f e k = k (e.get a) := by cases e; cases a <;> rfl
theorem mU_eq (a : D18) (u : N16 → (N16 → Ans) → Ans) (e : Vn) (k : Vn → Ans) : (mU a).f u e k = u (e.get a) fun r => k (e.set a r) := by cases e; cases a <;> rfl
theorem nU_eq (a : D16) (v : S) (e : N16) (k : N16 → Ans) : (nU a).f v e k = k (e.set a v) := by cases e; cases a <;> rfl
noncomputable def getr (i : Nat) : FG := Ix.rec (motive := fun _ => FG) (fun a b => FM.rec (motive := fun _ => FG) (fun m => FN.rec (motive := fun _ => FG) (fun n => .mk fun e k => m e fun r => n r k) (nG b)) (mG a)) (ix i)
noncomputable def setr (i : Nat) : FU := Ix.rec (motive := fun _ => FU) (fun a b => FMU.rec (motive := fun _ => FU) (fun m => FNU.rec (motive := fun _ => FU) (fun n => .mk fun v e k => m (fun r kk => n v r kk) e k) (nU b)) (mU a)) (ix i)
theorem getr_eq (i : Nat) (e : Vn) (k : S → Ans) : (getr i).f e k = k (e.at i) := by
 have h : (getr i).f e k = (mG (d18 (i / 16))).f e fun r => (nG (d16 (i % 16))).f r k := by
  simp only [getr, ix]
  cases mG (d18 (i / 16)); cases nG (d16 (i % 16)); rfl
 rw [h, mG_eq, nG_eq]; rfl
theorem setr_eq (i : Nat) (v : S) (e : Vn) (k : Vn → Ans) : (setr i).f v e k = k (e.put i v) := by
 have h : (setr i).f v e k = (mU (d18 (i / 16))).f (fun r kk => (nU (d16 (i % 16))).f v r kk) e k := by
  simp only [setr, ix]
  cases mU (d18 (i / 16)); cases nU (d16 (i % 16)); rfl
 rw [h, mU_eq, nU_eq]; rfl
noncomputable def cpO (a : AO) : FG := AO.rec (motive := fun _ => FG) (fun n => getr n) (fun x => .mk fun _ k => k (S.ofV x)) a
theorem as9 (a : AO) : (cpO a).f = wO a := by
 funext e k
 cases a with
 | s n => exact (getr_eq n e k).trans (gE_eq n e k).symm
 | k x => rfl
noncomputable def cpOs (l : List AO) : FL := List.rec (motive := fun _ => FL) (.mk fun _ k => k []) (fun a _ ih => FG.rec (motive := fun _ => FL) (fun g => FL.rec (motive := fun _ => FL) (fun l => .mk fun e k => g e fun x => l e fun l => k (x :: l)) ih) (cpO a)) l
theorem cpOs_eq : ∀ l : List AO, (cpOs l).f = wOs l
 | [] => rfl
 | a :: l => by
   have h : (cpOs (a :: l)).f = fun e k => (cpO a).f e fun x => (cpOs l).f e fun l => k (x :: l) := by
    show (FG.rec (motive := fun _ => FL) (fun g => FL.rec (motive := fun _ => FL) (fun l => .mk fun e k => g e fun x => l e fun l => k (x :: l)) (cpOs l)) (cpO a)).f = _
    cases cpO a; cases cpOs l; rfl
   rw [h, as9, cpOs_eq l]; rfl
noncomputable def x1 (x : AO) (F : (Vn → (S → Ans) → Ans) → Vn → T → (S → Ans) → Ans) : FX := FG.rec (motive := fun _ => FX) (fun g => .mk (F g)) (cpO x)
noncomputable def x2 (x y : AO) (F : (Vn → (S → Ans) → Ans) → (Vn → (S → Ans) → Ans) → Vn → T → (S → Ans) → Ans) : FX := FG.rec (motive := fun _ => FX) (fun g => FG.rec (motive := fun _ => FX) (fun h => .mk (F g h)) (cpO y)) (cpO x)
theorem x1_eq (x : AO) (F : (Vn → (S → Ans) → Ans) → Vn → T → (S → Ans) → Ans) : (x1 x F).f = F (wO x) := by
 rw [← as9]; unfold x1; cases cpO x; rfl
theorem x2_eq (x y : AO) (F : (Vn → (S → Ans) → Ans) → (Vn → (S → Ans) → Ans) → Vn → T → (S → Ans) → Ans) : (x2 x y F).f = F (wO x) (wO y) := by
 rw [← as9, ← as9]; unfold x2; cases cpO x; cases cpO y; rfl
noncomputable def binK (op : BinO) (a b : S) (k : S → Ans) : Ans := S.rec (motive := fun _ => Ans) (fun w => S.rec (motive := fun _ => Ans) (fun w' =>
 W.rec (motive := fun _ => Ans) (fun _ => none) (fun kd n => W.rec (motive := fun _ => Ans) (fun _ => none) (fun kd' m => be8 (kd = kd') (cmpI op n m (binF op a b k) fun r => k (.w (.b r)))) (fun _ _ => none) (fun _ _ => none) (fun _ _ _ _ _ => none) none none (fun _ => none) (fun _ => none) w')
  (fun l n => W.rec (motive := fun _ => Ans) (fun _ => none) (fun _ _ => none) (fun l' n' => cmpS op l n l' n' (binF op a b k) fun r => k (.w (.b r))) (fun _ _ => none) (fun _ _ _ _ _ => none) none none (fun _ => none) (fun _ => none) w')
  (fun _ _ => none) (fun _ _ _ _ _ => none) none none (fun _ => none) (fun _ => none) w) (fun _ => none) (fun _ => none) b) (fun _ => none) (fun _ => none) a
noncomputable def cpX (x : AX) : FX := AX.rec (motive := fun _ => FX)
 (fun x => x1 x fun g e t k => g e k)
 (fun c a b => FG.rec (motive := fun _ => FX) (fun gc => x2 a b fun ga gb e t k => gc e fun c => sB c (ga e k) (gb e k)) (cpO c))
 (fun x n agg => x1 x fun g e t k => g e fun s => ldK n agg t s k)
 (fun x off => x1 x fun g e t k => g e fun s => sP s fun a o => fNa (o + off) fun o => k (.w (.p a o)))
 (fun x i wd => x2 x i fun g h e t k => g e fun s => h e fun j => sSl s fun a off _ len _ => sI j fun _ n => natK n fun m => ifB (Nat.blt m len) (fNa (off + m * wd) fun o => k (.w (.p a o))) none)
 (fun op x y => x2 x y fun g h e t k => g e fun a => h e fun b => binK op a b k)
 (fun ng x y => .mk (wX (.beq ng x y))) (fun kd ng x => .mk (wX (.nleq kd ng x))) (fun ks ng x y => .mk (wX (.seq ks ng x y)))
 (fun x => x1 x fun g e t k => g e fun s => sB s (k (.w (.b false))) (k (.w (.b true))))
 (fun x => .mk (wX (.neg x))) (fun x => .mk (wX (.cpl x))) (fun x y => .mk (wX (.shl x y))) (fun x y => .mk (wX (.shr x y))) (fun str x => .mk (wX (.len str x))) (fun x => .mk (wX (.cap x))) (fun x y => .mk (wX (.mn x y))) (fun x y => .mk (wX (.mx x y)))
 (fun x off n agg => x1 x fun g e t k => g e fun s => sAg s fun cs => cutA off n agg cs k)
 (fun z ps => .mk (wX (.bld z ps))) (fun x y => .mk (wX (.six x y))) (fun x lo hi mx wd => .mk (wX (.ssl x lo hi mx wd))) (fun x lo hi => .mk (wX (.str x lo hi))) (fun kd x => .mk (wX (.cnv kd x))) (fun x => .mk (wX (.cvs x))) (fun f a b => .mk (wX (.mkf f a b))) (fun t x => .mk (wX (.mki t x))) (fun x => .mk (wX (.nck x))) (fun x i l n g => .mk (wX (.aix x i l n g))) (fun t x => .mk (wX (.tas t x)))
 (fun x i => x1 x fun g e t k => g e fun s => sTu s fun xs => atK i xs fun a => A.rec (motive := fun _ => Ans) (fun w => k (.w w)) (fun cs => k (.ag cs)) a)
 (fun m k kt z g ok => .mk (wX (.lkp m k kt z g ok))) (.mk (wX .rcv)) (fun x lo hi wd => .mk (wX (.ssx x lo hi wd))) x
theorem cpX_eq (x : AX) : (cpX x).f = wX x := by
 cases x
 case pick c a b =>
  have : ∀ gc : FG, (FG.rec (motive := fun _ => FX) (fun gc => x2 a b fun ga gb e t k => gc e fun c => sB c (ga e k) (gb e k)) gc : FX).f = fun e t k => gc.f e fun c => sB c (wO a e k) (wO b e k) := fun gc => by
   cases gc; exact x2_eq _ _ _
  exact (this (cpO c)).trans (by rw [as9]; rfl)
 case mov x => exact (x1_eq x fun g e t k => g e k).trans rfl
 case ld x n agg => exact (x1_eq x fun g e t k => g e fun s => ldK n agg t s k).trans rfl
 case fad x off => exact (x1_eq x fun g e t k => g e fun s => sP s fun a o => fNa (o + off) fun o => k (.w (.p a o))).trans rfl
 case iad x i wd => exact (x2_eq x i fun g h e t k => g e fun s => h e fun j => sSl s fun a off _ len _ => sI j fun _ n => natK n fun m => ifB (Nat.blt m len) (fNa (off + m * wd) fun o => k (.w (.p a o))) none).trans rfl
 case bin op x y => exact (x2_eq x y fun g h e t k => g e fun a => h e fun b => binK op a b k).trans rfl
 case not x => exact (x1_eq x fun g e t k => g e fun s => sB s (k (.w (.b false))) (k (.w (.b true)))).trans rfl
 case fld x off n agg => exact (x1_eq x fun g e t k => g e fun s => sAg s fun cs => cutA off n agg cs k).trans rfl
 case ext x i => exact (x1_eq x fun g e t k => g e fun s => sTu s fun xs => atK i xs fun a => A.rec (motive := fun _ => Ans) (fun w => k (.w w)) (fun cs => k (.ag cs)) a).trans rfl
 all_goals rfl
noncomputable def cpP (np : FuncId → Bool) (a : AFn) (y : RFn) (op : AOp) : FP := match op with
 | .set d x => FX.rec (motive := fun _ => FP) (fun fx => FU.rec (motive := fun _ => FP) (fun u => .mk fun rb e t nx k => fx e t fun v => u v e fun e => k e t nx) (setr d)) (cpX x)
 | .stp xa n x => FG.rec (motive := fun _ => FP) (fun ga => FG.rec (motive := fun _ => FP) (fun gx => .mk fun rb e t nx k => ga e fun v => gx e fun y => af2 y fun l => sP v fun a off => gT t a fun o => cO o fun gr cs => eqNK l.length n (putK off l cs fun cs => sT t a (.c gr cs) fun t => k e t nx)) (cpO x)) (cpO xa)
 | .box d j x => FG.rec (motive := fun _ => FP) (fun gx => FU.rec (motive := fun _ => FP) (fun u => .mk fun rb e t nx k => gx e fun v => af2 v fun l => fNa (rb + j) fun a => sT t a (.c false l) fun t => u (.w (.p a 0)) e fun e => k e t nx) (setr d)) (cpO x)
 | .cal d f args => FL.rec (motive := fun _ => FP) (fun l => FU.rec (motive := fun _ => FP) (fun u => .mk fun rb e t nx k => l e fun xs => ob (a f xs t nx) fun o => outK o fun r t nx => u r e fun e => k e t nx) (setr d)) (cpOs args)
 | op => .mk (wOp np a y op)
theorem setr_sE (d : Nat) : (setr d).f = sE d := by
 funext v e k; exact (setr_eq d v e k).trans (sE_eq d v e k).symm
theorem cpP_eq (np : FuncId → Bool) (a : AFn) (y : RFn) (op : AOp) : (cpP np a y op).f = wOp np a y op := by
 cases op <;> try rfl
 ·rename_i d x
  have h : (cpP np a y (.set d x)).f = fun rb e t nx k => (cpX x).f e t fun v => (setr d).f v e fun e => k e t nx := by
   simp only [cpP]; cases cpX x; cases setr d; rfl
  rw [h, cpX_eq, setr_sE]; rfl
 ·rename_i d j x
  have h : (cpP np a y (.box d j x)).f = fun rb e t nx k => (cpO x).f e fun v => af2 v fun l => fNa (rb + j) fun a => sT t a (.c false l) fun t => (setr d).f (.w (.p a 0)) e fun e => k e t nx := by
   simp only [cpP]; cases cpO x; cases setr d; rfl
  rw [h, as9, setr_sE]; rfl
 ·rename_i xa n x
  have h : (cpP np a y (.stp xa n x)).f = fun rb e t nx k => (cpO xa).f e fun v => (cpO x).f e fun y => af2 y fun l => sP v fun a off => gT t a fun o => cO o fun gr cs => eqNK l.length n (putK off l cs fun cs => sT t a (.c gr cs) fun t => k e t nx) := by
   simp only [cpP]; cases cpO xa; cases cpO x; rfl
  rw [h, as9, as9]; rfl
 ·rename_i d f args
  have h : (cpP np a y (.cal d f args)).f = fun rb e t nx k => (cpOs args).f e fun xs => ob (a f xs t nx) fun o => outK o fun r t nx => (setr d).f r e fun e => k e t nx := by
   simp only [cpP]; cases cpOs args; cases setr d; rfl
  rw [h, cpOs_eq, setr_sE]; rfl
noncomputable def cpG (np : FuncId → Bool) (a : AFn) (y : RFn) (o : GOp) : FP := match o with
 | ⟨none, op⟩ => cpP np a y op
 | o => .mk (wG np a y o)
theorem cpG_eq (np : FuncId → Bool) (a : AFn) (y : RFn) (o : GOp) : (cpG np a y o).f = wG np a y o := by
 obtain ⟨g, op⟩ := o
 cases g with
 | none => exact cpP_eq np a y op
 | some q => rfl
noncomputable def cpL (np : FuncId → Bool) (a : AFn) (y : RFn) (ops : List GOp) : FP := List.rec (motive := fun _ => FP) (.mk fun _ e t nx k => k e t nx)
 (fun o _ ih => FP.rec (motive := fun _ => FP) (fun p => FP.rec (motive := fun _ => FP) (fun q => .mk fun rb e t nx k => p rb e t nx fun e t nx => q rb e t nx k) ih) (cpG np a y o)) ops
theorem cpL_eq (np : FuncId → Bool) (a : AFn) (y : RFn) : ∀ ops : List GOp, (cpL np a y ops).f = wOps np a y ops
 | [] => rfl
 | o :: r => by
   have h : (cpL np a y (o :: r)).f = fun rb e t nx k => (cpG np a y o).f rb e t nx fun e t nx => (cpL np a y r).f rb e t nx k := by
    show (FP.rec (motive := fun _ => FP) (fun p => FP.rec (motive := fun _ => FP) (fun q => .mk fun rb e t nx k => p rb e t nx fun e t nx => q rb e t nx k) (cpL np a y r)) (cpG np a y o) : FP).f = _
    cases cpG np a y o; cases cpL np a y r; rfl
   rw [h, cpG_eq, cpL_eq np a y r]; rfl
def joinX (kn : KV) (kx : KX) : KX := fun x e t nx => match x with
 | .normal => kn e t nx
 | x => kx x e t nx
noncomputable def blkY (id : Nat) (x : Exit) (e : Vn) (t : T) (nx : Nat) (kn : KV) (kx : KX) : Ans := match x with
 | .exit i => ifB (Nat.beq i id) (kn e t nx) (kx (.exit i) e t nx)
 | x => kx x e t nx
noncomputable def cpC (np : FuncId → Bool) (a : AFn) (y : RFn) (fuel : Nat) (c : ACode) : FC := ACode.rec (motive := fun _ => FC)
 (.mk fun e t nx kn kx => kn e t nx)
 (fun na ops => FP.rec (motive := fun _ => FC) (fun p => .mk fun e t nx kn kx => fNa (nx + na) fun nx1 => p nx e t nx1 kn) (cpL np a y ops))
 (fun na ops => .mk fun e t nx kn kx => fNa (nx + na) fun nx1 => wDrw np a y ops ops nx e t nx1 kn)
 (fun _ _ iha ihb => FC.rec (motive := fun _ => FC) (fun fa => FC.rec (motive := fun _ => FC) (fun fb => .mk fun e t nx kn kx => fa e t nx (fun e t nx => fb e t nx kn kx) kx) ihb) iha)
 (fun c _ _ iha ihb => FG.rec (motive := fun _ => FC) (fun g => FC.rec (motive := fun _ => FC) (fun fa => FC.rec (motive := fun _ => FC) (fun fb => .mk fun e t nx kn kx => g e fun v => sB v (fa e t nx kn kx) (fb e t nx kn kx)) ihb) iha) (cpO c))
 (fun id _ iha => FC.rec (motive := fun _ => FC) (fun fa => .mk fun e t nx kn kx => fa e t nx kn fun x e t nx => blkY id x e t nx kn kx) iha)
 (fun _ iha => FC.rec (motive := fun _ => FC) (fun fa => .mk fun e t nx kn kx => Nat.rec (motive := fun _ => Vn → T → Nat → Ans) (fun _ _ _ => none) (fun _ ih e t nx => fa e t nx ih kx) fuel e t nx) iha)
 (fun id => .mk fun e t nx kn kx => kx (.exit id) e t nx)
 (.mk fun e t nx kn kx => kx .ret e t nx)
 (.mk fun _ _ _ _ _ => none)
 (fun m x ps asg bd _ _ => .mk fun e t nx kn kx => wRfn a m x ps asg bd e t nx (joinX kn kx)) c
theorem cpC_eq (np : FuncId → Bool) (a : AFn) (y : RFn) (fuel : Nat) : ∀ (c : ACode) (e : Vn) (t : T) (nx : Nat) (kn : KV) (kx : KX), (cpC np a y fuel c).f e t nx kn kx = wC np a y fuel c e t nx (joinX kn kx) := by
 intro c
 induction c with
 | skip => intro e t nx kn kx; rfl
 | reg na ops =>
   intro e t nx kn kx
   have h : (cpC np a y fuel (.reg na ops)).f e t nx kn kx = fNa (nx + na) fun nx1 => (cpL np a y ops).f nx e t nx1 kn := by
    show (FP.rec (motive := fun _ => FC) (fun p => .mk fun e t nx kn kx => fNa (nx + na) fun nx1 => p nx e t nx1 kn) (cpL np a y ops) : FC).f e t nx kn kx = _
    cases cpL np a y ops; rfl
   rw [h, cpL_eq]; rfl
 | drw na ops => intro e t nx kn kx; rfl
 | seq b c ihb ihc =>
   intro e t nx kn kx
   have h : (cpC np a y fuel (.seq b c)).f e t nx kn kx = (cpC np a y fuel b).f e t nx (fun e t nx => (cpC np a y fuel c).f e t nx kn kx) kx := by
    show (FC.rec (motive := fun _ => FC) (fun fa => FC.rec (motive := fun _ => FC) (fun fb => .mk fun e t nx kn kx => fa e t nx (fun e t nx => fb e t nx kn kx) kx) (cpC np a y fuel c)) (cpC np a y fuel b) : FC).f e t nx kn kx = _
    cases cpC np a y fuel b; cases cpC np a y fuel c; rfl
   rw [h, ihb]
   show wC np a y fuel b e t nx _ = wC np a y fuel b e t nx fun x e t nx => seqX x e t nx (fun e t nx => wC np a y fuel c e t nx (joinX kn kx)) (joinX kn kx)
   congr 1
   funext x e t nx
   cases x <;> first | rfl | exact ihc e t nx kn kx
 | cond q b c ihb ihc =>
   intro e t nx kn kx
   have h : (cpC np a y fuel (.cond q b c)).f e t nx kn kx = (cpO q).f e fun v => sB v ((cpC np a y fuel b).f e t nx kn kx) ((cpC np a y fuel c).f e t nx kn kx) := by
    show (FG.rec (motive := fun _ => FC) (fun g => FC.rec (motive := fun _ => FC) (fun fa => FC.rec (motive := fun _ => FC) (fun fb => .mk fun e t nx kn kx => g e fun v => sB v (fa e t nx kn kx) (fb e t nx kn kx)) (cpC np a y fuel c)) (cpC np a y fuel b)) (cpO q) : FC).f e t nx kn kx = _
    cases cpO q; cases cpC np a y fuel b; cases cpC np a y fuel c; rfl
   rw [h, as9, ihb, ihc]; rfl
 | block id b ihb =>
   intro e t nx kn kx
   have h : (cpC np a y fuel (.block id b)).f e t nx kn kx = (cpC np a y fuel b).f e t nx kn fun x e t nx => blkY id x e t nx kn kx := by
    show (FC.rec (motive := fun _ => FC) (fun fa => .mk fun e t nx kn kx => fa e t nx kn fun x e t nx => blkY id x e t nx kn kx) (cpC np a y fuel b) : FC).f e t nx kn kx = _
    cases cpC np a y fuel b; rfl
   rw [h, ihb]
   show wC np a y fuel b e t nx _ = wC np a y fuel b e t nx fun x e t nx => blkX id x e t nx (joinX kn kx)
   congr 1
   funext x e t nx
   cases x <;> rfl
 | loop b ihb =>
   intro e t nx kn kx
   have h : (cpC np a y fuel (.loop b)).f e t nx kn kx = Nat.rec (motive := fun _ => Vn → T → Nat → Ans) (fun _ _ _ => none) (fun _ ih e t nx => (cpC np a y fuel b).f e t nx ih kx) fuel e t nx := by
    show (FC.rec (motive := fun _ => FC) (fun fa => .mk fun e t nx kn kx => Nat.rec (motive := fun _ => Vn → T → Nat → Ans) (fun _ _ _ => none) (fun _ ih e t nx => fa e t nx ih kx) fuel e t nx) (cpC np a y fuel b) : FC).f e t nx kn kx = _
    cases cpC np a y fuel b; rfl
   rw [h]
   show _ = Nat.rec (motive := fun _ => Vn → T → Nat → Ans) (fun _ _ _ => none) (fun _ ih e t nx => wC np a y fuel b e t nx fun x e t nx => seqX x e t nx ih (joinX kn kx)) fuel e t nx
   have key : ∀ n : Nat, (Nat.rec (motive := fun _ => Vn → T → Nat → Ans) (fun _ _ _ => none) (fun _ ih e t nx => (cpC np a y fuel b).f e t nx ih kx) n : Vn → T → Nat → Ans) =
     Nat.rec (motive := fun _ => Vn → T → Nat → Ans) (fun _ _ _ => none) (fun _ ih e t nx => wC np a y fuel b e t nx fun x e t nx => seqX x e t nx ih (joinX kn kx)) n := by
    intro n
    induction n with
    | zero => rfl
    | succ n ih =>
      funext e t nx
      simp only
      rw [ihb, ih]
      congr 1
      funext x e t nx
      cases x <;> rfl
   rw [key]
 | exit id => intro e t nx kn kx; rfl
 | ret => intro e t nx kn kx; rfl
 | bad => intro e t nx kn kx; rfl
 | rfn m x ps asg bd _ _ => intro e t nx kn kx; rfl
noncomputable def callF (tab : Tab) (np : FuncId → Bool) (a : AFn) (y : RFn) (fuel : Nat) (f : FuncId) (xs : List S) (t : T) (nx : Nat) : Option Out := match tab f with
 | some af => ifB (af.ok) (ifB (Nat.ble xs.length af.nt) (FC.rec (motive := fun _ => Ans) (fun fc => iniE xs 0 undV fun e => fc e t nx (fun e t nx => wRes af.res e t fun r => some (r, t, nx)) (retK af.res)) (cpC np a y fuel af.body)) none) none
 | none => none
theorem callF_eq (tab : Tab) (np : FuncId → Bool) (a : AFn) (y : RFn) (fuel : Nat) : callF tab np a y fuel = callA tab np a y fuel := by
 funext f xs t nx
 unfold callF callA
 cases tab f with
 | none => rfl
 | some af =>
   have h : (FC.rec (motive := fun _ => Ans) (fun fc => iniE xs 0 undV fun e => fc e t nx (fun e t nx => wRes af.res e t fun r => some (r, t, nx)) (retK af.res)) (cpC np a y fuel af.body) : Ans) = iniE xs 0 undV fun e => (cpC np a y fuel af.body).f e t nx (fun e t nx => wRes af.res e t fun r => some (r, t, nx)) (retK af.res) := by
    cases cpC np a y fuel af.body; rfl
   simp only [h, cpC_eq]
   congr 3
   funext e
   congr 1
   funext x e t nx
   cases x <;> rfl
noncomputable def cllf (tab : Tab) (np : FuncId → Bool) (known : AFn) (fuel : Nat) (n : Nat) : Clls := Nat.rec (motive := fun _ => Clls) ⟨fun _ _ _ _ => none, fun _ _ _ _ => none⟩
 (fun _ ih => ⟨fun f xs t nx => match known f xs t nx with
   | some r => some r
   | none => callF tab np ih.a ih.y fuel f xs t nx, callR np ih.a ih.y fuel⟩) n
theorem cllf_eq (tab : Tab) (np : FuncId → Bool) (known : AFn) (fuel n : Nat) : cllf tab np known fuel n = clls tab np known fuel n := by
 unfold cllf clls
 simp only [callF_eq]
 rfl
end Go.B
