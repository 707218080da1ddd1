/-
  Slots and a heap for a fast runner, written so that the kernel reads and writes them in few steps. Program-independent.
-/
import Derived.Test.YtagogibgoknncaaGreatDoorBP
set_option linter.unusedVariables false
set_option linter.unusedSectionVars false
namespace Go.B
variable [iok : OkC]
inductive D16 where
 | d0 | d1 | d2 | d3 | d4 | d5 | d6 | d7 | d8 | d9 | d10 | d11 | d12 | d13 | d14 | d15
inductive D18 where
 | d0 | d1 | d2 | d3 | d4 | d5 | d6 | d7 | d8 | d9 | d10 | d11 | d12 | d13 | d14 | d15 | d16 | d17
inductive W where
 | b (x : Bool)
 | i (k : IntKind) (n : Int)
 | s (l n : Nat)
 | p (a o : Nat)
 | sl (a off wd len : Nat) (cp : Option Nat)
 | ns
 | np
 | m (a : Nat)
 | z (x : V)
inductive A where
 | w (x : W)
 | ag (cs : List W)
inductive S where
 | w (x : W)
 | ag (cs : List W)
 | tu (xs : List A)
inductive RO where
 | no
 | gone
 | c (gr : Bool) (cs : List W)
 | m (es : List (V × V × Nat)) (clock : Nat)
 | lp (ps : List Nat) (asg bd : ACode) (sl : List (Nat × S)) (stt : LoopState) (pnd : Option (Option Nat))
def W.v : W → V
 | .b x => .b x
 | .i k n => .i k n
 | .s l n => .s l n
 | .p a o => .p a o
 | .sl a off wd len cp => .sl a off wd len cp
 | .ns => .ns
 | .np => .np
 | .m a => .m a
 | .z x => x
def A.v : A → V
 | .w x => x.v
 | .ag cs => .ag (cs.map W.v)
def S.v : S → V
 | .w x => x.v
 | .ag cs => .ag (cs.map W.v)
 | .tu xs => .tu (xs.map A.v)
def RO.o : RO → O
 | .no => .no
 | .gone => .gone
 | .c gr cs => .c gr (cs.map W.v)
 | .m es clock => .m es clock
 | .lp ps asg bd sl stt pnd => .lp ps asg bd (sl.map fun p => (p.1, p.2.v)) stt pnd
def W.ofV : V → W
 | .b x => .b x
 | .i k n => .i k n
 | .s l n => .s l n
 | .p a o => .p a o
 | .sl a off wd len cp => .sl a off wd len cp
 | .ns => .ns
 | .np => .np
 | .m a => .m a
 | x => .z x
def A.ofV : V → A
 | .ag cs => .ag (cs.map W.ofV)
 | x => .w (W.ofV x)
def S.ofV : V → S
 | .ag cs => .ag (cs.map W.ofV)
 | .tu xs => .tu (xs.map A.ofV)
 | x => .w (W.ofV x)
theorem W.v_of (x : V) : (W.ofV x).v = x := by cases x <;> rfl
theorem W.map_of (l : List V) : (l.map W.ofV).map W.v = l := by
 rw [List.map_map]
 conv => rhs; rw [← List.map_id l]
 exact List.map_congr_left fun x _ => W.v_of x
theorem A.v_of (x : V) : (A.ofV x).v = x := by
 cases x <;> first | rfl | exact congrArg V.ag (W.map_of _)
theorem S.v_of (x : V) : (S.ofV x).v = x := by
 cases x <;> first | rfl | exact congrArg V.ag (W.map_of _) | skip
 rename_i l
 show V.tu ((l.map A.ofV).map A.v) = V.tu l
 rw [List.map_map]
 congr
 conv => rhs; rw [← List.map_id l]
 exact List.map_congr_left fun x _ => A.v_of x
def uS : S := .w (.z .und)
inductive N16 where
 | mk (x0 x1 x2 x3 x4 x5 x6 x7 x8 x9 x10 x11 x12 x13 x14 x15 : S)
inductive Vn where
 | mk (x0 x1 x2 x3 x4 x5 x6 x7 x8 x9 x10 x11 x12 x13 x14 x15 x16 x17 : N16)
inductive Ix where
 | mk (a : D18) (b : D16)
inductive T where
 | nil
 | nd (o : RO) (l r : T)
abbrev Out := S × T × Nat
abbrev Ans := Option Out
section
noncomputable def gN0 (n : N16) (k : S → Ans) : Ans := N16.rec (motive := fun _ => (S → Ans) → Ans) (fun x0 _ _ _ _ _ _ _ _ _ _ _ _ _ _ _ k => k x0) n k
noncomputable def sN0 (v : S) (n : N16) (k : N16 → Ans) : Ans := N16.rec (motive := fun _ => S → (N16 → Ans) → Ans) (fun _ x1 x2 x3 x4 x5 x6 x7 x8 x9 x10 x11 x12 x13 x14 x15 v k => k (.mk v x1 x2 x3 x4 x5 x6 x7 x8 x9 x10 x11 x12 x13 x14 x15)) n v k
noncomputable def gN1 (n : N16) (k : S → Ans) : Ans := N16.rec (motive := fun _ => (S → Ans) → Ans) (fun _ x1 _ _ _ _ _ _ _ _ _ _ _ _ _ _ k => k x1) n k
noncomputable def sN1 (v : S) (n : N16) (k : N16 → Ans) : Ans := N16.rec (motive := fun _ => S → (N16 → Ans) → Ans) (fun x0 _ x2 x3 x4 x5 x6 x7 x8 x9 x10 x11 x12 x13 x14 x15 v k => k (.mk x0 v x2 x3 x4 x5 x6 x7 x8 x9 x10 x11 x12 x13 x14 x15)) n v k
noncomputable def gN2 (n : N16) (k : S → Ans) : Ans := N16.rec (motive := fun _ => (S → Ans) → Ans) (fun _ _ x2 _ _ _ _ _ _ _ _ _ _ _ _ _ k => k x2) n k
noncomputable def sN2 (v : S) (n : N16) (k : N16 → Ans) : Ans := N16.rec (motive := fun _ => S → (N16 → Ans) → Ans) (fun x0 x1 _ x3 x4 x5 x6 x7 x8 x9 x10 x11 x12 x13 x14 x15 v k => k (.mk x0 x1 v x3 x4 x5 x6 x7 x8 x9 x10 x11 x12 x13 x14 x15)) n v k
noncomputable def gN3 (n : N16) (k : S → Ans) : Ans := N16.rec (motive := fun _ => (S → Ans) → Ans) (fun _ _ _ x3 _ _ _ _ _ _ _ _ _ _ _ _ k => k x3) n k
noncomputable def sN3 (v : S) (n : N16) (k : N16 → Ans) : Ans := N16.rec (motive := fun _ => S → (N16 → Ans) → Ans) (fun x0 x1 x2 _ x4 x5 x6 x7 x8 x9 x10 x11 x12 x13 x14 x15 v k => k (.mk x0 x1 x2 v x4 x5 x6 x7 x8 x9 x10 x11 x12 x13 x14 x15)) n v k
noncomputable def gN4 (n : N16) (k : S → Ans) : Ans := N16.rec (motive := fun _ => (S → Ans) → Ans) (fun _ _ _ _ x4 _ _ _ _ _ _ _ _ _ _ _ k => k x4) n k
noncomputable def sN4 (v : S) (n : N16) (k : N16 → Ans) : Ans := N16.rec (motive := fun _ => S → (N16 → Ans) → Ans) (fun x0 x1 x2 x3 _ x5 x6 x7 x8 x9 x10 x11 x12 x13 x14 x15 v k => k (.mk x0 x1 x2 x3 v x5 x6 x7 x8 x9 x10 x11 x12 x13 x14 x15)) n v k
noncomputable def gN5 (n : N16) (k : S → Ans) : Ans := N16.rec (motive := fun _ => (S → Ans) → Ans) (fun _ _ _ _ _ x5 _ _ _ _ _ _ _ _ _ _ k => k x5) n k
noncomputable def sN5 (v : S) (n : N16) (k : N16 → Ans) : Ans := N16.rec (motive := fun _ => S → (N16 → Ans) → Ans) (fun x0 x1 x2 x3 x4 _ x6 x7 x8 x9 x10 x11 x12 x13 x14 x15 v k => k (.mk x0 x1 x2 x3 x4 v x6 x7 x8 x9 x10 x11 x12 x13 x14 x15)) n v k
noncomputable def gN6 (n : N16) (k : S → Ans) : Ans := N16.rec (motive := fun _ => (S → Ans) → Ans) (fun _ _ _ _ _ _ x6 _ _ _ _ _ _ _ _ _ k => k x6) n k
noncomputable def sN6 (v : S) (n : N16) (k : N16 → Ans) : Ans := N16.rec (motive := fun _ => S → (N16 → Ans) → Ans) (fun x0 x1 x2 x3 x4 x5 _ x7 x8 x9 x10 x11 x12 x13 x14 x15 v k => k (.mk x0 x1 x2 x3 x4 x5 v x7 x8 x9 x10 x11 x12 x13 x14 x15)) n v k
noncomputable def gN7 (n : N16) (k : S → Ans) : Ans := N16.rec (motive := fun _ => (S → Ans) → Ans) (fun _ _ _ _ _ _ _ x7 _ _ _ _ _ _ _ _ k => k x7) n k
noncomputable def sN7 (v : S) (n : N16) (k : N16 → Ans) : Ans := N16.rec (motive := fun _ => S → (N16 → Ans) → Ans) (fun x0 x1 x2 x3 x4 x5 x6 _ x8 x9 x10 x11 x12 x13 x14 x15 v k => k (.mk x0 x1 x2 x3 x4 x5 x6 v x8 x9 x10 x11 x12 x13 x14 x15)) n v k
noncomputable def gN8 (n : N16) (k : S → Ans) : Ans := N16.rec (motive := fun _ => (S → Ans) → Ans) (fun _ _ _ _ _ _ _ _ x8 _ _ _ _ _ _ _ k => k x8) n k
noncomputable def sN8 (v : S) (n : N16) (k : N16 → Ans) : Ans := N16.rec (motive := fun _ => S → (N16 → Ans) → Ans) (fun x0 x1 x2 x3 x4 x5 x6 x7 _ x9 x10 x11 x12 x13 x14 x15 v k => k (.mk x0 x1 x2 x3 x4 x5 x6 x7 v x9 x10 x11 x12 x13 x14 x15)) n v k
noncomputable def gN9 (n : N16) (k : S → Ans) : Ans := N16.rec (motive := fun _ => (S → Ans) → Ans) (fun _ _ _ _ _ _ _ _ _ x9 _ _ _ _ _ _ k => k x9) n k
noncomputable def sN9 (v : S) (n : N16) (k : N16 → Ans) : Ans := N16.rec (motive := fun _ => S → (N16 → Ans) → Ans) (fun x0 x1 x2 x3 x4 x5 x6 x7 x8 _ x10 x11 x12 x13 x14 x15 v k => k (.mk x0 x1 x2 x3 x4 x5 x6 x7 x8 v x10 x11 x12 x13 x14 x15)) n v k
noncomputable def gN10 (n : N16) (k : S → Ans) : Ans := N16.rec (motive := fun _ => (S → Ans) → Ans) (fun _ _ _ _ _ _ _ _ _ _ x10 _ _ _ _ _ k => k x10) n k
noncomputable def sN10 (v : S) (n : N16) (k : N16 → Ans) : Ans := N16.rec (motive := fun _ => S → (N16 → Ans) → Ans) (fun x0 x1 x2 x3 x4 x5 x6 x7 x8 x9 _ x11 x12 x13 x14 x15 v k => k (.mk x0 x1 x2 x3 x4 x5 x6 x7 x8 x9 v x11 x12 x13 x14 x15)) n v k
noncomputable def gN11 (n : N16) (k : S → Ans) : Ans := N16.rec (motive := fun _ => (S → Ans) → Ans) (fun _ _ _ _ _ _ _ _ _ _ _ x11 _ _ _ _ k => k x11) n k
noncomputable def sN11 (v : S) (n : N16) (k : N16 → Ans) : Ans := N16.rec (motive := fun _ => S → (N16 → Ans) → Ans) (fun x0 x1 x2 x3 x4 x5 x6 x7 x8 x9 x10 _ x12 x13 x14 x15 v k => k (.mk x0 x1 x2 x3 x4 x5 x6 x7 x8 x9 x10 v x12 x13 x14 x15)) n v k
noncomputable def gN12 (n : N16) (k : S → Ans) : Ans := N16.rec (motive := fun _ => (S → Ans) → Ans) (fun _ _ _ _ _ _ _ _ _ _ _ _ x12 _ _ _ k => k x12) n k
noncomputable def sN12 (v : S) (n : N16) (k : N16 → Ans) : Ans := N16.rec (motive := fun _ => S → (N16 → Ans) → Ans) (fun x0 x1 x2 x3 x4 x5 x6 x7 x8 x9 x10 x11 _ x13 x14 x15 v k => k (.mk x0 x1 x2 x3 x4 x5 x6 x7 x8 x9 x10 x11 v x13 x14 x15)) n v k
noncomputable def gN13 (n : N16) (k : S → Ans) : Ans := N16.rec (motive := fun _ => (S → Ans) → Ans) (fun _ _ _ _ _ _ _ _ _ _ _ _ _ x13 _ _ k => k x13) n k
noncomputable def sN13 (v : S) (n : N16) (k : N16 → Ans) : Ans := N16.rec (motive := fun _ => S → (N16 → Ans) → Ans) (fun x0 x1 x2 x3 x4 x5 x6 x7 x8 x9 x10 x11 x12 _ x14 x15 v k => k (.mk x0 x1 x2 x3 x4 x5 x6 x7 x8 x9 x10 x11 x12 v x14 x15)) n v k
noncomputable def gN14 (n : N16) (k : S → Ans) : Ans := N16.rec (motive := fun _ => (S → Ans) → Ans) (fun _ _ _ _ _ _ _ _ _ _ _ _ _ _ x14 _ k => k x14) n k
noncomputable def sN14 (v : S) (n : N16) (k : N16 → Ans) : Ans := N16.rec (motive := fun _ => S → (N16 → Ans) → Ans) (fun x0 x1 x2 x3 x4 x5 x6 x7 x8 x9 x10 x11 x12 x13 _ x15 v k => k (.mk x0 x1 x2 x3 x4 x5 x6 x7 x8 x9 x10 x11 x12 x13 v x15)) n v k
noncomputable def gN15 (n : N16) (k : S → Ans) : Ans := N16.rec (motive := fun _ => (S → Ans) → Ans) (fun _ _ _ _ _ _ _ _ _ _ _ _ _ _ _ x15 k => k x15) n k
noncomputable def sN15 (v : S) (n : N16) (k : N16 → Ans) : Ans := N16.rec (motive := fun _ => S → (N16 → Ans) → Ans) (fun x0 x1 x2 x3 x4 x5 x6 x7 x8 x9 x10 x11 x12 x13 x14 _ v k => k (.mk x0 x1 x2 x3 x4 x5 x6 x7 x8 x9 x10 x11 x12 x13 x14 v)) n v k
noncomputable def gN (d : D16) : N16 → (S → Ans) → Ans := D16.rec (motive := fun _ => N16 → (S → Ans) → Ans) gN0 gN1 gN2 gN3 gN4 gN5 gN6 gN7 gN8 gN9 gN10 gN11 gN12 gN13 gN14 gN15 d
noncomputable def sN (d : D16) : S → N16 → (N16 → Ans) → Ans := D16.rec (motive := fun _ => S → N16 → (N16 → Ans) → Ans) sN0 sN1 sN2 sN3 sN4 sN5 sN6 sN7 sN8 sN9 sN10 sN11 sN12 sN13 sN14 sN15 d
def N16.get : N16 → D16 → S
 | .mk x0 x1 x2 x3 x4 x5 x6 x7 x8 x9 x10 x11 x12 x13 x14 x15, d => match d with
   | .d0 => x0 | .d1 => x1 | .d2 => x2 | .d3 => x3 | .d4 => x4 | .d5 => x5 | .d6 => x6 | .d7 => x7 | .d8 => x8 | .d9 => x9 | .d10 => x10 | .d11 => x11 | .d12 => x12 | .d13 => x13 | .d14 => x14 | .d15 => x15
def N16.set : N16 → D16 → S → N16
 | .mk x0 x1 x2 x3 x4 x5 x6 x7 x8 x9 x10 x11 x12 x13 x14 x15, d, v => match d with
   | .d0 => .mk v x1 x2 x3 x4 x5 x6 x7 x8 x9 x10 x11 x12 x13 x14 x15 | .d1 => .mk x0 v x2 x3 x4 x5 x6 x7 x8 x9 x10 x11 x12 x13 x14 x15 | .d2 => .mk x0 x1 v x3 x4 x5 x6 x7 x8 x9 x10 x11 x12 x13 x14 x15 | .d3 => .mk x0 x1 x2 v x4 x5 x6 x7 x8 x9 x10 x11 x12 x13 x14 x15 | .d4 => .mk x0 x1 x2 x3 v x5 x6 x7 x8 x9 x10 x11 x12 x13 x14 x15 | .d5 => .mk x0 x1 x2 x3 x4 v x6 x7 x8 x9 x10 x11 x12 x13 x14 x15 | .d6 => .mk x0 x1 x2 x3 x4 x5 v x7 x8 x9 x10 x11 x12 x13 x14 x15 | .d7 => .mk x0 x1 x2 x3 x4 x5 x6 v x8 x9 x10 x11 x12 x13 x14 x15 | .d8 => .mk x0 x1 x2 x3 x4 x5 x6 x7 v x9 x10 x11 x12 x13 x14 x15 | .d9 => .mk x0 x1 x2 x3 x4 x5 x6 x7 x8 v x10 x11 x12 x13 x14 x15 | .d10 => .mk x0 x1 x2 x3 x4 x5 x6 x7 x8 x9 v x11 x12 x13 x14 x15 | .d11 => .mk x0 x1 x2 x3 x4 x5 x6 x7 x8 x9 x10 v x12 x13 x14 x15 | .d12 => .mk x0 x1 x2 x3 x4 x5 x6 x7 x8 x9 x10 x11 v x13 x14 x15 | .d13 => .mk x0 x1 x2 x3 x4 x5 x6 x7 x8 x9 x10 x11 x12 v x14 x15 | .d14 => .mk x0 x1 x2 x3 x4 x5 x6 x7 x8 x9 x10 x11 x12 x13 v x15 | .d15 => .mk x0 x1 x2 x3 x4 x5 x6 x7 x8 x9 x10 x11 x12 x13 x14 v
theorem gN_eq (d : D16) (n : N16) (k : S → Ans) : gN d n k = k (n.get d) := by cases n; cases d <;> rfl
theorem sN_eq (d : D16) (v : S) (n : N16) (k : N16 → Ans) : sN d v n k = k (n.set d v) := by cases n; cases d <;> rfl
theorem N16.get_set (d : D16) (v : S) (n : N16) : (n.set d v).get d = v := by cases n; cases d <;> rfl
theorem N16.get_ne (d e : D16) (v : S) (n : N16) (h : d ≠ e) : (n.set d v).get e = n.get e := by cases n; cases d <;> cases e <;> first | rfl | exact absurd rfl h
end
section
noncomputable def gM0 (n : Vn) (k : N16 → Ans) : Ans := Vn.rec (motive := fun _ => (N16 → Ans) → Ans) (fun x0 _ _ _ _ _ _ _ _ _ _ _ _ _ _ _ _ _ k => k x0) n k
noncomputable def sM0 (v : N16) (n : Vn) (k : Vn → Ans) : Ans := Vn.rec (motive := fun _ => N16 → (Vn → Ans) → Ans) (fun _ x1 x2 x3 x4 x5 x6 x7 x8 x9 x10 x11 x12 x13 x14 x15 x16 x17 v k => k (.mk v x1 x2 x3 x4 x5 x6 x7 x8 x9 x10 x11 x12 x13 x14 x15 x16 x17)) n v k
noncomputable def gM1 (n : Vn) (k : N16 → Ans) : Ans := Vn.rec (motive := fun _ => (N16 → Ans) → Ans) (fun _ x1 _ _ _ _ _ _ _ _ _ _ _ _ _ _ _ _ k => k x1) n k
noncomputable def sM1 (v : N16) (n : Vn) (k : Vn → Ans) : Ans := Vn.rec (motive := fun _ => N16 → (Vn → Ans) → Ans) (fun x0 _ x2 x3 x4 x5 x6 x7 x8 x9 x10 x11 x12 x13 x14 x15 x16 x17 v k => k (.mk x0 v x2 x3 x4 x5 x6 x7 x8 x9 x10 x11 x12 x13 x14 x15 x16 x17)) n v k
noncomputable def gM2 (n : Vn) (k : N16 → Ans) : Ans := Vn.rec (motive := fun _ => (N16 → Ans) → Ans) (fun _ _ x2 _ _ _ _ _ _ _ _ _ _ _ _ _ _ _ k => k x2) n k
noncomputable def sM2 (v : N16) (n : Vn) (k : Vn → Ans) : Ans := Vn.rec (motive := fun _ => N16 → (Vn → Ans) → Ans) (fun x0 x1 _ x3 x4 x5 x6 x7 x8 x9 x10 x11 x12 x13 x14 x15 x16 x17 v k => k (.mk x0 x1 v x3 x4 x5 x6 x7 x8 x9 x10 x11 x12 x13 x14 x15 x16 x17)) n v k
noncomputable def gM3 (n : Vn) (k : N16 → Ans) : Ans := Vn.rec (motive := fun _ => (N16 → Ans) → Ans) (fun _ _ _ x3 _ _ _ _ _ _ _ _ _ _ _ _ _ _ k => k x3) n k
noncomputable def sM3 (v : N16) (n : Vn) (k : Vn → Ans) : Ans := Vn.rec (motive := fun _ => N16 → (Vn → Ans) → Ans) (fun x0 x1 x2 _ x4 x5 x6 x7 x8 x9 x10 x11 x12 x13 x14 x15 x16 x17 v k => k (.mk x0 x1 x2 v x4 x5 x6 x7 x8 x9 x10 x11 x12 x13 x14 x15 x16 x17)) n v k
noncomputable def gM4 (n : Vn) (k : N16 → Ans) : Ans := Vn.rec (motive := fun _ => (N16 → Ans) → Ans) (fun _ _ _ _ x4 _ _ _ _ _ _ _ _ _ _ _ _ _ k => k x4) n k
noncomputable def sM4 (v : N16) (n : Vn) (k : Vn → Ans) : Ans := Vn.rec (motive := fun _ => N16 → (Vn → Ans) → Ans) (fun x0 x1 x2 x3 _ x5 x6 x7 x8 x9 x10 x11 x12 x13 x14 x15 x16 x17 v k => k (.mk x0 x1 x2 x3 v x5 x6 x7 x8 x9 x10 x11 x12 x13 x14 x15 x16 x17)) n v k
noncomputable def gM5 (n : Vn) (k : N16 → Ans) : Ans := Vn.rec (motive := fun _ => (N16 → Ans) → Ans) (fun _ _ _ _ _ x5 _ _ _ _ _ _ _ _ _ _ _ _ k => k x5) n k
noncomputable def sM5 (v : N16) (n : Vn) (k : Vn → Ans) : Ans := Vn.rec (motive := fun _ => N16 → (Vn → Ans) → Ans) (fun x0 x1 x2 x3 x4 _ x6 x7 x8 x9 x10 x11 x12 x13 x14 x15 x16 x17 v k => k (.mk x0 x1 x2 x3 x4 v x6 x7 x8 x9 x10 x11 x12 x13 x14 x15 x16 x17)) n v k
noncomputable def gM6 (n : Vn) (k : N16 → Ans) : Ans := Vn.rec (motive := fun _ => (N16 → Ans) → Ans) (fun _ _ _ _ _ _ x6 _ _ _ _ _ _ _ _ _ _ _ k => k x6) n k
noncomputable def sM6 (v : N16) (n : Vn) (k : Vn → Ans) : Ans := Vn.rec (motive := fun _ => N16 → (Vn → Ans) → Ans) (fun x0 x1 x2 x3 x4 x5 _ x7 x8 x9 x10 x11 x12 x13 x14 x15 x16 x17 v k => k (.mk x0 x1 x2 x3 x4 x5 v x7 x8 x9 x10 x11 x12 x13 x14 x15 x16 x17)) n v k
noncomputable def gM7 (n : Vn) (k : N16 → Ans) : Ans := Vn.rec (motive := fun _ => (N16 → Ans) → Ans) (fun _ _ _ _ _ _ _ x7 _ _ _ _ _ _ _ _ _ _ k => k x7) n k
noncomputable def sM7 (v : N16) (n : Vn) (k : Vn → Ans) : Ans := Vn.rec (motive := fun _ => N16 → (Vn → Ans) → Ans) (fun x0 x1 x2 x3 x4 x5 x6 _ x8 x9 x10 x11 x12 x13 x14 x15 x16 x17 v k => k (.mk x0 x1 x2 x3 x4 x5 x6 v x8 x9 x10 x11 x12 x13 x14 x15 x16 x17)) n v k
noncomputable def gM8 (n : Vn) (k : N16 → Ans) : Ans := Vn.rec (motive := fun _ => (N16 → Ans) → Ans) (fun _ _ _ _ _ _ _ _ x8 _ _ _ _ _ _ _ _ _ k => k x8) n k
noncomputable def sM8 (v : N16) (n : Vn) (k : Vn → Ans) : Ans := Vn.rec (motive := fun _ => N16 → (Vn → Ans) → Ans) (fun x0 x1 x2 x3 x4 x5 x6 x7 _ x9 x10 x11 x12 x13 x14 x15 x16 x17 v k => k (.mk x0 x1 x2 x3 x4 x5 x6 x7 v x9 x10 x11 x12 x13 x14 x15 x16 x17)) n v k
noncomputable def gM9 (n : Vn) (k : N16 → Ans) : Ans := Vn.rec (motive := fun _ => (N16 → Ans) → Ans) (fun _ _ _ _ _ _ _ _ _ x9 _ _ _ _ _ _ _ _ k => k x9) n k
noncomputable def sM9 (v : N16) (n : Vn) (k : Vn → Ans) : Ans := Vn.rec (motive := fun _ => N16 → (Vn → Ans) → Ans) (fun x0 x1 x2 x3 x4 x5 x6 x7 x8 _ x10 x11 x12 x13 x14 x15 x16 x17 v k => k (.mk x0 x1 x2 x3 x4 x5 x6 x7 x8 v x10 x11 x12 x13 x14 x15 x16 x17)) n v k
noncomputable def gM10 (n : Vn) (k : N16 → Ans) : Ans := Vn.rec (motive := fun _ => (N16 → Ans) → Ans) (fun _ _ _ _ _ _ _ _ _ _ x10 _ _ _ _ _ _ _ k => k x10) n k
noncomputable def sM10 (v : N16) (n : Vn) (k : Vn → Ans) : Ans := Vn.rec (motive := fun _ => N16 → (Vn → Ans) → Ans) (fun x0 x1 x2 x3 x4 x5 x6 x7 x8 x9 _ x11 x12 x13 x14 x15 x16 x17 v k => k (.mk x0 x1 x2 x3 x4 x5 x6 x7 x8 x9 v x11 x12 x13 x14 x15 x16 x17)) n v k
noncomputable def gM11 (n : Vn) (k : N16 → Ans) : Ans := Vn.rec (motive := fun _ => (N16 → Ans) → Ans) (fun _ _ _ _ _ _ _ _ _ _ _ x11 _ _ _ _ _ _ k => k x11) n k
noncomputable def sM11 (v : N16) (n : Vn) (k : Vn → Ans) : Ans := Vn.rec (motive := fun _ => N16 → (Vn → Ans) → Ans) (fun x0 x1 x2 x3 x4 x5 x6 x7 x8 x9 x10 _ x12 x13 x14 x15 x16 x17 v k => k (.mk x0 x1 x2 x3 x4 x5 x6 x7 x8 x9 x10 v x12 x13 x14 x15 x16 x17)) n v k
noncomputable def gM12 (n : Vn) (k : N16 → Ans) : Ans := Vn.rec (motive := fun _ => (N16 → Ans) → Ans) (fun _ _ _ _ _ _ _ _ _ _ _ _ x12 _ _ _ _ _ k => k x12) n k
noncomputable def sM12 (v : N16) (n : Vn) (k : Vn → Ans) : Ans := Vn.rec (motive := fun _ => N16 → (Vn → Ans) → Ans) (fun x0 x1 x2 x3 x4 x5 x6 x7 x8 x9 x10 x11 _ x13 x14 x15 x16 x17 v k => k (.mk x0 x1 x2 x3 x4 x5 x6 x7 x8 x9 x10 x11 v x13 x14 x15 x16 x17)) n v k
noncomputable def gM13 (n : Vn) (k : N16 → Ans) : Ans := Vn.rec (motive := fun _ => (N16 → Ans) → Ans) (fun _ _ _ _ _ _ _ _ _ _ _ _ _ x13 _ _ _ _ k => k x13) n k
noncomputable def sM13 (v : N16) (n : Vn) (k : Vn → Ans) : Ans := Vn.rec (motive := fun _ => N16 → (Vn → Ans) → Ans) (fun x0 x1 x2 x3 x4 x5 x6 x7 x8 x9 x10 x11 x12 _ x14 x15 x16 x17 v k => k (.mk x0 x1 x2 x3 x4 x5 x6 x7 x8 x9 x10 x11 x12 v x14 x15 x16 x17)) n v k
noncomputable def gM14 (n : Vn) (k : N16 → Ans) : Ans := Vn.rec (motive := fun _ => (N16 → Ans) → Ans) (fun _ _ _ _ _ _ _ _ _ _ _ _ _ _ x14 _ _ _ k => k x14) n k
noncomputable def sM14 (v : N16) (n : Vn) (k : Vn → Ans) : Ans := Vn.rec (motive := fun _ => N16 → (Vn → Ans) → Ans) (fun x0 x1 x2 x3 x4 x5 x6 x7 x8 x9 x10 x11 x12 x13 _ x15 x16 x17 v k => k (.mk x0 x1 x2 x3 x4 x5 x6 x7 x8 x9 x10 x11 x12 x13 v x15 x16 x17)) n v k
noncomputable def gM15 (n : Vn) (k : N16 → Ans) : Ans := Vn.rec (motive := fun _ => (N16 → Ans) → Ans) (fun _ _ _ _ _ _ _ _ _ _ _ _ _ _ _ x15 _ _ k => k x15) n k
noncomputable def sM15 (v : N16) (n : Vn) (k : Vn → Ans) : Ans := Vn.rec (motive := fun _ => N16 → (Vn → Ans) → Ans) (fun x0 x1 x2 x3 x4 x5 x6 x7 x8 x9 x10 x11 x12 x13 x14 _ x16 x17 v k => k (.mk x0 x1 x2 x3 x4 x5 x6 x7 x8 x9 x10 x11 x12 x13 x14 v x16 x17)) n v k
noncomputable def gM16 (n : Vn) (k : N16 → Ans) : Ans := Vn.rec (motive := fun _ => (N16 → Ans) → Ans) (fun _ _ _ _ _ _ _ _ _ _ _ _ _ _ _ _ x16 _ k => k x16) n k
noncomputable def sM16 (v : N16) (n : Vn) (k : Vn → Ans) : Ans := Vn.rec (motive := fun _ => N16 → (Vn → Ans) → Ans) (fun x0 x1 x2 x3 x4 x5 x6 x7 x8 x9 x10 x11 x12 x13 x14 x15 _ x17 v k => k (.mk x0 x1 x2 x3 x4 x5 x6 x7 x8 x9 x10 x11 x12 x13 x14 x15 v x17)) n v k
noncomputable def gM17 (n : Vn) (k : N16 → Ans) : Ans := Vn.rec (motive := fun _ => (N16 → Ans) → Ans) (fun _ _ _ _ _ _ _ _ _ _ _ _ _ _ _ _ _ x17 k => k x17) n k
noncomputable def sM17 (v : N16) (n : Vn) (k : Vn → Ans) : Ans := Vn.rec (motive := fun _ => N16 → (Vn → Ans) → Ans) (fun x0 x1 x2 x3 x4 x5 x6 x7 x8 x9 x10 x11 x12 x13 x14 x15 x16 _ v k => k (.mk x0 x1 x2 x3 x4 x5 x6 x7 x8 x9 x10 x11 x12 x13 x14 x15 x16 v)) n v k
noncomputable def gM (d : D18) : Vn → (N16 → Ans) → Ans := D18.rec (motive := fun _ => Vn → (N16 → Ans) → Ans) gM0 gM1 gM2 gM3 gM4 gM5 gM6 gM7 gM8 gM9 gM10 gM11 gM12 gM13 gM14 gM15 gM16 gM17 d
noncomputable def sM (d : D18) : N16 → Vn → (Vn → Ans) → Ans := D18.rec (motive := fun _ => N16 → Vn → (Vn → Ans) → Ans) sM0 sM1 sM2 sM3 sM4 sM5 sM6 sM7 sM8 sM9 sM10 sM11 sM12 sM13 sM14 sM15 sM16 sM17 d
def Vn.get : Vn → D18 → N16
 | .mk x0 x1 x2 x3 x4 x5 x6 x7 x8 x9 x10 x11 x12 x13 x14 x15 x16 x17, d => match d with
   | .d0 => x0 | .d1 => x1 | .d2 => x2 | .d3 => x3 | .d4 => x4 | .d5 => x5 | .d6 => x6 | .d7 => x7 | .d8 => x8 | .d9 => x9 | .d10 => x10 | .d11 => x11 | .d12 => x12 | .d13 => x13 | .d14 => x14 | .d15 => x15 | .d16 => x16 | .d17 => x17
def Vn.set : Vn → D18 → N16 → Vn
 | .mk x0 x1 x2 x3 x4 x5 x6 x7 x8 x9 x10 x11 x12 x13 x14 x15 x16 x17, d, v => match d with
   | .d0 => .mk v x1 x2 x3 x4 x5 x6 x7 x8 x9 x10 x11 x12 x13 x14 x15 x16 x17 | .d1 => .mk x0 v x2 x3 x4 x5 x6 x7 x8 x9 x10 x11 x12 x13 x14 x15 x16 x17 | .d2 => .mk x0 x1 v x3 x4 x5 x6 x7 x8 x9 x10 x11 x12 x13 x14 x15 x16 x17 | .d3 => .mk x0 x1 x2 v x4 x5 x6 x7 x8 x9 x10 x11 x12 x13 x14 x15 x16 x17 | .d4 => .mk x0 x1 x2 x3 v x5 x6 x7 x8 x9 x10 x11 x12 x13 x14 x15 x16 x17 | .d5 => .mk x0 x1 x2 x3 x4 v x6 x7 x8 x9 x10 x11 x12 x13 x14 x15 x16 x17 | .d6 => .mk x0 x1 x2 x3 x4 x5 v x7 x8 x9 x10 x11 x12 x13 x14 x15 x16 x17 | .d7 => .mk x0 x1 x2 x3 x4 x5 x6 v x8 x9 x10 x11 x12 x13 x14 x15 x16 x17 | .d8 => .mk x0 x1 x2 x3 x4 x5 x6 x7 v x9 x10 x11 x12 x13 x14 x15 x16 x17 | .d9 => .mk x0 x1 x2 x3 x4 x5 x6 x7 x8 v x10 x11 x12 x13 x14 x15 x16 x17 | .d10 => .mk x0 x1 x2 x3 x4 x5 x6 x7 x8 x9 v x11 x12 x13 x14 x15 x16 x17 | .d11 => .mk x0 x1 x2 x3 x4 x5 x6 x7 x8 x9 x10 v x12 x13 x14 x15 x16 x17 | .d12 => .mk x0 x1 x2 x3 x4 x5 x6 x7 x8 x9 x10 x11 v x13 x14 x15 x16 x17 | .d13 => .mk x0 x1 x2 x3 x4 x5 x6 x7 x8 x9 x10 x11 x12 v x14 x15 x16 x17 | .d14 => .mk x0 x1 x2 x3 x4 x5 x6 x7 x8 x9 x10 x11 x12 x13 v x15 x16 x17 | .d15 => .mk x0 x1 x2 x3 x4 x5 x6 x7 x8 x9 x10 x11 x12 x13 x14 v x16 x17 | .d16 => .mk x0 x1 x2 x3 x4 x5 x6 x7 x8 x9 x10 x11 x12 x13 x14 x15 v x17 | .d17 => .mk x0 x1 x2 x3 x4 x5 x6 x7 x8 x9 x10 x11 x12 x13 x14 x15 x16 v
theorem gM_eq (d : D18) (n : Vn) (k : N16 → Ans) : gM d n k = k (n.get d) := by cases n; cases d <;> rfl
theorem sM_eq (d : D18) (v : N16) (n : Vn) (k : Vn → Ans) : sM d v n k = k (n.set d v) := by cases n; cases d <;> rfl
theorem Vn.get_set (d : D18) (v : N16) (n : Vn) : (n.set d v).get d = v := by cases n; cases d <;> rfl
theorem Vn.get_ne (d e : D18) (v : N16) (n : Vn) (h : d ≠ e) : (n.set d v).get e = n.get e := by cases n; cases d <;> cases e <;> first | rfl | exact absurd rfl h
end
def d16 : Nat → D16
 | 0 => .d0 | 1 => .d1 | 2 => .d2 | 3 => .d3 | 4 => .d4 | 5 => .d5 | 6 => .d6 | 7 => .d7 | 8 => .d8 | 9 => .d9 | 10 => .d10 | 11 => .d11 | 12 => .d12 | 13 => .d13 | 14 => .d14 | _ => .d15
def d18 : Nat → D18
 | 0 => .d0 | 1 => .d1 | 2 => .d2 | 3 => .d3 | 4 => .d4 | 5 => .d5 | 6 => .d6 | 7 => .d7 | 8 => .d8 | 9 => .d9 | 10 => .d10 | 11 => .d11 | 12 => .d12 | 13 => .d13 | 14 => .d14 | 15 => .d15 | 16 => .d16 | _ => .d17
def ix (i : Nat) : Ix := .mk (d18 (i / 16)) (d16 (i % 16))
def D16.n : D16 → Nat
 | .d0 => 0 | .d1 => 1 | .d2 => 2 | .d3 => 3 | .d4 => 4 | .d5 => 5 | .d6 => 6 | .d7 => 7 | .d8 => 8 | .d9 => 9 | .d10 => 10 | .d11 => 11 | .d12 => 12 | .d13 => 13 | .d14 => 14 | .d15 => 15
def D18.n : D18 → Nat
 | .d0 => 0 | .d1 => 1 | .d2 => 2 | .d3 => 3 | .d4 => 4 | .d5 => 5 | .d6 => 6 | .d7 => 7 | .d8 => 8 | .d9 => 9 | .d10 => 10 | .d11 => 11 | .d12 => 12 | .d13 => 13 | .d14 => 14 | .d15 => 15 | .d16 => 16 | .d17 => 17
theorem d16_n (i : Nat) (h : i < 16) : (d16 i).n = i := by
 have : ∀ i : Fin 16, (d16 i.1).n = i.1 := by decide
 exact this ⟨i, h⟩
theorem d18_n (i : Nat) (h : i < 17) : (d18 i).n = i := by
 have : ∀ i : Fin 17, (d18 i.1).n = i.1 := by decide
 exact this ⟨i, h⟩
theorem d18_big (i : Nat) (h : 17 ≤ i) : (d18 i).n = 17 := by
 obtain ⟨j, rfl⟩ : ∃ j, i = j + 17 := ⟨i - 17, by omega⟩
 rfl
theorem d16_ne {i j : Nat} (hi : i < 16) (hj : j < 16) (h : i ≠ j) : d16 i ≠ d16 j := fun e => h (by rw [← d16_n i hi, ← d16_n j hj, e])
theorem d18_ne {i j : Nat} (hi : i < 17) (h : i ≠ j) : d18 i ≠ d18 j := by
 intro e
 have e1 := d18_n i hi
 rw [e] at e1
 rcases Nat.lt_or_ge j 17 with hj | hj
 ·rw [d18_n j hj] at e1; exact h e1.symm
 ·rw [d18_big j hj] at e1; omega
def Vn.at (e : Vn) (i : Nat) : S := (e.get (d18 (i / 16))).get (d16 (i % 16))
def Vn.put (e : Vn) (i : Nat) (v : S) : Vn := e.set (d18 (i / 16)) ((e.get (d18 (i / 16))).set (d16 (i % 16)) v)
theorem Vn.put_at (e : Vn) {i : Nat} (v : S) (hi : i < 272) : (e.put i v).at = upd e.at i v := by
 funext j
 simp only [Vn.at, Vn.put, upd]
 by_cases h : j = i
 ·subst h; rw [if_pos rfl, Vn.get_set, N16.get_set]
 ·rw [if_neg h]
  by_cases hd : i / 16 = j / 16
  ·rw [← hd, Vn.get_set, N16.get_ne _ _ _ _ (d16_ne (by omega) (by omega) (by omega))]
  ·rw [Vn.get_ne _ _ _ _ (d18_ne (by omega) hd)]
noncomputable def gE (i : Nat) (e : Vn) (k : S → Ans) : Ans := Ix.rec (motive := fun _ => Vn → (S → Ans) → Ans) (fun a b e k => gM a e fun n => gN b n k) (ix i) e k
noncomputable def sE (i : Nat) (v : S) (e : Vn) (k : Vn → Ans) : Ans := Ix.rec (motive := fun _ => S → Vn → (Vn → Ans) → Ans) (fun a b v e k => gM a e fun n => sN b v n fun n => sM a n e k) (ix i) v e k
theorem gE_eq (i : Nat) (e : Vn) (k : S → Ans) : gE i e k = k (e.at i) := by simp only [gE, ix, gM_eq, gN_eq, Vn.at]
theorem sE_eq (i : Nat) (v : S) (e : Vn) (k : Vn → Ans) : sE i v e k = k (e.put i v) := by simp only [sE, ix, gM_eq, sN_eq, sM_eq, Vn.put]
def ai9 : N16 := .mk uS uS uS uS uS uS uS uS uS uS uS uS uS uS uS uS
def undV : Vn := .mk ai9 ai9 ai9 ai9 ai9 ai9 ai9 ai9 ai9 ai9 ai9 ai9 ai9 ai9 ai9 ai9 ai9 ai9
theorem undV_at : undV.at = fun _ => uS := by
 funext i
 simp only [Vn.at]
 generalize d18 (i / 16) = a
 generalize d16 (i % 16) = b
 have h : undV.get a = ai9 := by cases a <;> rfl
 rw [h]
 cases b <;> rfl
def T.fn : T → Nat → RO
 | .nil, _ => .no
 | .nd o l r, a => match a with
   | 0 => o
   | m + 1 => if m % 2 = 0 then l.fn (m / 2) else r.fn (m / 2)
noncomputable def gT (t : T) : Nat → (RO → Ans) → Ans := T.rec (motive := fun _ => Nat → (RO → Ans) → Ans) (fun _ k => k .no)
 (fun o _ _ ihl ihr a k => Nat.rec (motive := fun _ => Ans) (k o) (fun m _ => Bool.rec (motive := fun _ => Ans) (ihr (m / 2) k) (ihl (m / 2) k) (Nat.beq (m % 2) 0)) a) t
theorem ak2 : ∀ (t : T) (a : Nat) (k : RO → Ans), gT t a k = k (t.fn a)
 | .nil, a, k => rfl
 | .nd o l r, 0, k => rfl
 | .nd o l r, m + 1, k => by
   show Bool.rec (motive := fun _ => Ans) (gT r (m / 2) k) (gT l (m / 2) k) (Nat.beq (m % 2) 0) = _
   simp only [T.fn]
   by_cases h : m % 2 = 0
   ·rw [if_pos h, h]; exact ak2 l (m / 2) k
   ·have : Nat.beq (m % 2) 0 = false := by
     cases hb : Nat.beq (m % 2) 0 with
     | false => rfl
     | true => exact (h (Nat.eq_of_beq_eq_true hb)).elim
    rw [if_neg h, this]; exact ak2 r (m / 2) k
noncomputable def newT (f : Nat) : Nat → RO → (T → Ans) → Ans := Nat.rec (motive := fun _ => Nat → RO → (T → Ans) → Ans) (fun _ _ _ => none)
 (fun _ ih a v k => Nat.rec (motive := fun _ => Ans) (k (.nd v .nil .nil)) (fun m _ => Bool.rec (motive := fun _ => Ans) (ih (m / 2) v fun t => k (.nd .no .nil t)) (ih (m / 2) v fun t => k (.nd .no t .nil)) (Nat.beq (m % 2) 0)) a) f
noncomputable def sT (t : T) : Nat → RO → (T → Ans) → Ans := T.rec (motive := fun _ => Nat → RO → (T → Ans) → Ans) (fun a v k => newT 40 a v k)
 (fun o l r ihl ihr a v k => Nat.rec (motive := fun _ => Ans) (k (.nd v l r)) (fun m _ => Bool.rec (motive := fun _ => Ans) (ihr (m / 2) v fun t => k (.nd o l t)) (ihl (m / 2) v fun t => k (.nd o t r)) (Nat.beq (m % 2) 0)) a) t
theorem beq_ne {m : Nat} (h : m ≠ 0) : Nat.beq m 0 = false := by
 cases hb : Nat.beq m 0 with
 | false => rfl
 | true => exact (h (Nat.eq_of_beq_eq_true hb)).elim
theorem fn_nd {o v : RO} {l r t : T} {m : Nat} : (m % 2 = 0 → t.fn = upd l.fn (m / 2) v → (T.nd o t r).fn = upd (T.nd o l r).fn (m + 1) v) ∧ (m % 2 ≠ 0 → t.fn = upd r.fn (m / 2) v → (T.nd o l t).fn = upd (T.nd o l r).fn (m + 1) v) := by
 refine ⟨fun hm ht => ?_, fun hm ht => ?_⟩
 all_goals
  funext b
  cases b with
  | zero => simp [T.fn, upd]
  | succ b =>
    simp only [T.fn, upd, ht]
    by_cases hb : b % 2 = 0
    ·simp only [hb, if_true]
     by_cases he : b = m
     ·subst he; simp_all
     ·have : ¬ (b + 1 = m + 1) := by omega
      first
       | rw [if_neg this, if_neg (show ¬ (b / 2 = m / 2) by omega)]
       | rw [if_neg this]
    ·simp only [hb, if_false]
     by_cases he : b = m
     ·subst he; simp_all
     ·have : ¬ (b + 1 = m + 1) := by omega
      first
       | rw [if_neg this, if_neg (show ¬ (b / 2 = m / 2) by omega)]
       | rw [if_neg this]
theorem ba7 : ∀ (f a : Nat) (v : RO) (k : T → Ans) (L : Out), newT f a v k = some L → ∃ t : T, t.fn = upd (fun _ => .no) a v ∧ k t = some L
 | 0, a, v, k, L, h => by cases h
 | f + 1, 0, v, k, L, h => ⟨.nd v .nil .nil, by funext b; cases b <;> simp [T.fn, upd], h⟩
 | f + 1, m + 1, v, k, L, h => by
   change Bool.rec (motive := fun _ => Ans) (newT f (m / 2) v fun t => k (.nd .no .nil t)) (newT f (m / 2) v fun t => k (.nd .no t .nil)) (Nat.beq (m % 2) 0) = some L at h
   have h0 : (T.nd RO.no .nil .nil).fn = fun _ => RO.no := by funext b; cases b <;> simp [T.fn]
   by_cases hm : m % 2 = 0
   ·rw [hm] at h
    obtain ⟨t, h1, h2⟩ := ba7 f (m / 2) v _ L h
    exact ⟨_, by rw [(fn_nd (o := .no) (v := v) (l := .nil) (r := .nil)).1 hm (by rw [h1]; rfl), h0], h2⟩
   ·rw [beq_ne hm] at h
    obtain ⟨t, h1, h2⟩ := ba7 f (m / 2) v _ L h
    exact ⟨_, by rw [(fn_nd (o := .no) (v := v) (l := .nil) (r := .nil)).2 hm (by rw [h1]; rfl), h0], h2⟩
theorem af3 : ∀ (t : T) (a : Nat) (v : RO) (k : T → Ans) (L : Out), sT t a v k = some L → ∃ t' : T, t'.fn = upd t.fn a v ∧ k t' = some L
 | .nil, a, v, k, L, h => ba7 40 a v k L h
 | .nd o l r, 0, v, k, L, h => ⟨.nd v l r, by funext b; cases b <;> simp [T.fn, upd], h⟩
 | .nd o l r, m + 1, v, k, L, h => by
   change Bool.rec (motive := fun _ => Ans) (sT r (m / 2) v fun t => k (.nd o l t)) (sT l (m / 2) v fun t => k (.nd o t r)) (Nat.beq (m % 2) 0) = some L at h
   by_cases hm : m % 2 = 0
   ·rw [hm] at h
    obtain ⟨t, h1, h2⟩ := af3 l (m / 2) v _ L h
    exact ⟨_, fn_nd.1 hm h1, h2⟩
   ·rw [beq_ne hm] at h
    obtain ⟨t, h1, h2⟩ := af3 r (m / 2) v _ L h
    exact ⟨_, fn_nd.2 hm h1, h2⟩
theorem upd_map {α β : Type} (f : α → β) (g : Nat → α) (n : Nat) (x : α) : (fun m => f (upd g n x m)) = upd (fun m => f (g m)) n (f x) := by
 funext m; simp only [upd]; split <;> rfl
def Vn.sl (e : Vn) : Nat → V := fun i => (e.at i).v
def T.h (t : T) : Nat → O := fun a => (t.fn a).o
theorem Vn.put_sl (e : Vn) {i : Nat} (v : S) (hi : i < 272) : (e.put i v).sl = upd e.sl i v.v := by
 unfold Vn.sl; rw [Vn.put_at e v hi]; exact upd_map S.v _ _ _
theorem T.put_h {t t' : T} {a : Nat} {o : RO} (h : t'.fn = upd t.fn a o) : t'.h = upd t.h a o.o := by
 unfold T.h; rw [h]; exact upd_map RO.o _ _ _
end Go.B
