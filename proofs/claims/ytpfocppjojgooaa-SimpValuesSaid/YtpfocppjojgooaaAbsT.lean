/-
  A runner of abstract codes with fuel, and its soundness: what it computes is what the function returns. Program-independent.
-/
import Derived.Test.YtpfocppjojgooaaAbsQa
set_option linter.unusedSimpArgs false
set_option linter.unusedVariables false
namespace Go.Abs

/- equality of outcomes -/
mutual
def TV.eqb : TV → TV → Bool
  | .b x, .b y => x == y
  | .i k n, .i k' n' => k == k' && n == n'
  | .s x, .s y => x == y
  | .nl, .nl => true
  | .ns, .ns => true
  | .nm, .nm => true
  | .nf, .nf => true
  | .ni, .ni => true
  | .ts x, .ts y => TV.eqr x y
  | .ag x, .ag y => TV.eql x y
  | .tu x, .tu y => TV.eql x y
  | .fn f x, .fn g y => f == g && TV.eql x y
  | .ifc t x, .ifc u y => t == u && TV.eqb x y
  | _, _ => false
def TV.eql : List TV → List TV → Bool
  | [], [] => true
  | x :: xs, y :: ys => TV.eqb x y && TV.eql xs ys
  | _, _ => false
def TV.eqr : List (List TV) → List (List TV) → Bool
  | [], [] => true
  | x :: xs, y :: ys => TV.eql x y && TV.eqr xs ys
  | _, _ => false
end
mutual
theorem TV.eqb_eq : ∀ (x y : TV), TV.eqb x y = true → x = y
  | .b x, y, h => by cases y <;> simp [TV.eqb] at h; rw [h]
  | .i k n, y, h => by cases y <;> simp [TV.eqb] at h; rw [h.1, h.2]
  | .s a, y, h => by cases y <;> simp [TV.eqb] at h; rw [h]
  | .nl, y, h => by cases y <;> simp [TV.eqb] at h; rfl
  | .ns, y, h => by cases y <;> simp [TV.eqb] at h; rfl
  | .nm, y, h => by cases y <;> simp [TV.eqb] at h; rfl
  | .nf, y, h => by cases y <;> simp [TV.eqb] at h; rfl
  | .ni, y, h => by cases y <;> simp [TV.eqb] at h; rfl
  | .ts a, y, h => by cases y <;> simp [TV.eqb] at h; rw [TV.eqr_eq a _ h]
  | .ag a, y, h => by cases y <;> simp [TV.eqb] at h; rw [TV.eql_eq a _ h]
  | .tu a, y, h => by cases y <;> simp [TV.eqb] at h; rw [TV.eql_eq a _ h]
  | .fn f a, y, h => by cases y <;> simp [TV.eqb] at h; rw [h.1, TV.eql_eq a _ h.2]
  | .ifc t x, y, h => by cases y <;> simp [TV.eqb] at h; rw [h.1, TV.eqb_eq x _ h.2]
theorem TV.eql_eq : ∀ (x y : List TV), TV.eql x y = true → x = y
  | [], y, h => by cases y <;> simp [TV.eql] at h; rfl
  | x :: xs, y, h => by
    cases y with
    | nil => simp [TV.eql] at h
    | cons y ys => simp [TV.eql] at h; rw [TV.eqb_eq x y h.1, TV.eql_eq xs ys h.2]
theorem TV.eqr_eq : ∀ (x y : List (List TV)), TV.eqr x y = true → x = y
  | [], y, h => by cases y <;> simp [TV.eqr] at h; rfl
  | x :: xs, y, h => by
    cases y with
    | nil => simp [TV.eqr] at h
    | cons y ys => simp [TV.eqr] at h; rw [TV.eql_eq x y h.1, TV.eqr_eq xs ys h.2]
end
mutual
def AC.eqb : AC → AC → Bool
  | .t x, .t y => TV.eqb x y
  | .und, .und => true
  | .os w r, .os w' r' => w == w' && TV.eqr r r'
  | .ex w r, .ex w' r' => w == w' && TV.eqr r r'
  | .tp r c, .tp r' c' => TV.eql r r' && c == c'
  | .p a b c d, .p a' b' c' d' => a == a' && b == b' && c == c' && d == d'
  | .sl a b c d, .sl a' b' c' d' => a == a' && b == b' && c == c' && d == d'
  | .m x, .m y => x == y
  | .it x, .it y => x == y
  | .fn f x, .fn g y => f == g && AC.eql x y
  | .ifc z x, .ifc u y => z == u && AC.eqb x y
  | _, _ => false
def AC.eql : List AC → List AC → Bool
  | [], [] => true
  | x :: xs, y :: ys => AC.eqb x y && AC.eql xs ys
  | _, _ => false
end
mutual
theorem AC.eqb_eq : ∀ (x y : AC), AC.eqb x y = true → x = y
  | .t x, y, h => by cases y <;> simp [AC.eqb] at h; rw [TV.eqb_eq x _ h]
  | .und, y, h => by cases y <;> simp [AC.eqb] at h; rfl
  | .os a b, y, h => by cases y <;> simp [AC.eqb] at h; rw [h.1, TV.eqr_eq b _ h.2]
  | .ex a b, y, h => by cases y <;> simp [AC.eqb] at h; rw [h.1, TV.eqr_eq b _ h.2]
  | .tp a b, y, h => by cases y <;> simp [AC.eqb] at h; rw [h.2, TV.eql_eq a _ h.1]
  | .p a b c d, y, h => by cases y <;> simp [AC.eqb] at h; obtain ⟨⟨⟨rfl, rfl⟩, rfl⟩, rfl⟩ := h; rfl
  | .sl a b c d, y, h => by cases y <;> simp [AC.eqb] at h; obtain ⟨⟨⟨rfl, rfl⟩, rfl⟩, rfl⟩ := h; rfl
  | .m x, y, h => by cases y <;> simp [AC.eqb] at h; rw [h]
  | .it x, y, h => by cases y <;> simp [AC.eqb] at h; rw [h]
  | .fn f a, y, h => by cases y <;> simp [AC.eqb] at h; rw [h.1, AC.eql_eq a _ h.2]
  | .ifc z x, y, h => by cases y <;> simp [AC.eqb] at h; rw [h.1, AC.eqb_eq x _ h.2]
theorem AC.eql_eq : ∀ (x y : List AC), AC.eql x y = true → x = y
  | [], y, h => by cases y <;> simp [AC.eql] at h; rfl
  | x :: xs, y, h => by
    cases y with
    | nil => simp [AC.eql] at h
    | cons y ys => simp [AC.eql] at h; rw [AC.eqb_eq x y h.1, AC.eql_eq xs ys h.2]
end
/-- equality of lists, element by element -/
def eqL {α : Type} (f : α → α → Bool) : List α → List α → Bool
  | [], [] => true
  | x :: xs, y :: ys => f x y && eqL f xs ys
  | _, _ => false
theorem eqL_eq {α : Type} {f : α → α → Bool} (hf : ∀ x y, f x y = true → x = y) : ∀ (x y : List α), eqL f x y = true → x = y
  | [], y, h => by cases y <;> simp [eqL] at h; rfl
  | x :: xs, y, h => by
    cases y with
    | nil => simp [eqL] at h
    | cons y ys => simp [eqL] at h; rw [hf x y h.1, eqL_eq hf xs ys h.2]
def EV.eqb : EV → EV → Bool
  | .c x, .c y => AC.eqb x y
  | .ag x, .ag y => AC.eql x y
  | _, _ => false
theorem EV.eqb_eq (x y : EV) (h : EV.eqb x y = true) : x = y := by
  cases x <;> cases y <;> simp [EV.eqb] at h
  · rw [AC.eqb_eq _ _ h]
  · rw [AC.eql_eq _ _ h]
def SV.eqb : SV → SV → Bool
  | .e x, .e y => EV.eqb x y
  | .tu x, .tu y => eqL EV.eqb x y
  | .bx x, .bx y => AC.eql x y
  | _, _ => false
theorem SV.eqb_eq (x y : SV) (h : SV.eqb x y = true) : x = y := by
  cases x <;> cases y <;> simp [SV.eqb] at h
  · rw [EV.eqb_eq _ _ h]
  · rw [eqL_eq EV.eqb_eq _ _ h]
  · rw [AC.eql_eq _ _ h]
def HB.eqb : HB → HB → Bool
  | .rows a x, .rows b y => a == b && eqL AC.eql x y
  | .map x, .map y => eqL (fun a b => TV.eqb a.1 b.1 && EV.eqb a.2 b.2) x y
  | .iter a l c, .iter b m d => a == b && l == m && c == d
  | .gone, .gone => true
  | _, _ => false
theorem HB.eqb_eq (x y : HB) (h : HB.eqb x y = true) : x = y := by
  cases x <;> cases y <;> simp [HB.eqb] at h
  · rw [h.1, eqL_eq AC.eql_eq _ _ h.2]
  · rw [eqL_eq (fun a b h => ?_) _ _ h]
    obtain ⟨a1, a2⟩ := a
    obtain ⟨b1, b2⟩ := b
    simp at h
    rw [TV.eqb_eq _ _ h.1, EV.eqb_eq _ _ h.2]
  · obtain ⟨⟨rfl, rfl⟩, rfl⟩ := h; rfl
  · rfl

abbrev Out := SV × List HB
def Out.eqb (a b : Out) : Bool := SV.eqb a.1 b.1 && eqL HB.eqb a.2 b.2
theorem Out.eqb_eq (x y : Out) (h : Out.eqb x y = true) : x = y := by
  obtain ⟨a, b⟩ := x
  obtain ⟨c, d⟩ := y
  simp [Out.eqb] at h
  rw [SV.eqb_eq _ _ h.1, eqL_eq HB.eqb_eq _ _ h.2]

/- forcing: the identity, spelled so that a value is there before the run goes on -/
section
variable {α : Type}
def fB (b : Bool) (k : Bool → α) : α := match b with
  | true => k true
  | false => k false
def fN (n : Nat) (k : Nat → α) : α := match n with
  | 0 => k 0
  | n + 1 => k (n + 1)
def fI (n : Int) (k : Int → α) : α := match n with
  | .ofNat n => fN n fun n => k (.ofNat n)
  | .negSucc n => fN n fun n => k (.negSucc n)
def fL {β : Type} (f : β → (β → α) → α) : List β → (List β → α) → α
  | [], k => k []
  | x :: xs, k => f x fun x => fL f xs fun xs => k (x :: xs)
def f0 {β : Type} (x : β) (k : β → α) : α := k x
def f1 {β : Type} (l : List β) (k : List β → α) : α := match l with
  | [] => k []
  | x :: xs => k (x :: xs)
def fTi (x : TV) (k : TV → α) : α := match x with
  | .b x => fB x fun x => k (.b x)
  | .i kd n => fI n fun n => k (.i kd n)
  | x => k x
def fTo (x : TV) (k : TV → α) : α := match x with
  | .b x => fB x fun x => k (.b x)
  | .i kd n => fI n fun n => k (.i kd n)
  | .s l => fL f0 l fun l => k (.s l)
  | .ts r => fL (fL f0) r fun r => k (.ts r)
  | .ag l => fL fTi l fun l => k (.ag l)
  | x => k x
def fAi (x : AC) (k : AC → α) : α := match x with
  | .t x => fTi x fun x => k (.t x)
  | x => k x
def fAo (x : AC) (k : AC → α) : α := match x with
  | .t x => fTo x fun x => k (.t x)
  | .os w r => fL (fL f0) r fun r => k (.os w r)
  | .ex w r => fL (fL f0) r fun r => k (.ex w r)
  | .tp r c => fN c fun c => k (.tp r c)
  | .p a b c d => fN c fun c => fN d fun d => k (.p a b c d)
  | .sl a b c d => fN c fun c => fN d fun d => k (.sl a b c d)
  | .fn f l => fL fAi l fun l => k (.fn f l)
  | x => k x
def fEV (x : EV) (k : EV → α) : α := match x with
  | .c x => fAo x fun x => k (.c x)
  | .ag l => fL fAi l fun l => k (.ag l)
def fSV (x : SV) (k : SV → α) : α := match x with
  | .e x => fEV x fun x => k (.e x)
  | .tu l => fL fEV l fun l => k (.tu l)
  | .bx l => fL fAi l fun l => k (.bx l)
def fHB (x : HB) (k : HB → α) : α := match x with
  | .rows w r => fL (fL fAi) r fun r => k (.rows w r)
  | .map l => fL (fun (e : TV × EV) k => fTo e.1 fun a => fEV e.2 fun b => k (a, b)) l fun l => k (.map l)
  | .iter m l c => fL f0 l fun l => k (.iter m l c)
  | .gone => k .gone
def fAt : Nat → List SV → (List SV → α) → α
  | _, [], k => k []
  | 0, x :: xs, k => fSV x fun x => k (x :: xs)
  | n + 1, x :: xs, k => fAt n xs fun xs => k (x :: xs)
def fAts : List Nat → List SV → (List SV → α) → α
  | [], l, k => k l
  | n :: ns, l, k => fAt n l fun l => fAts ns l k

theorem fB_eq (b : Bool) (k : Bool → α) : fB b k = k b := by cases b <;> rfl
theorem fN_eq (n : Nat) (k : Nat → α) : fN n k = k n := by cases n <;> rfl
theorem fI_eq (n : Int) (k : Int → α) : fI n k = k n := by cases n <;> simp [fI, fN_eq]
theorem fL_eq {β : Type} {f : β → (β → α) → α} (hf : ∀ x k, f x k = k x) : ∀ (l : List β) (k : List β → α), fL f l k = k l
  | [], k => rfl
  | x :: xs, k => by simp [fL, hf, fL_eq hf xs]
theorem f0_eq {β : Type} (x : β) (k : β → α) : f0 x k = k x := rfl
theorem f1_eq {β : Type} (l : List β) (k : List β → α) : f1 l k = k l := by cases l <;> rfl
theorem fTi_eq (x : TV) (k : TV → α) : fTi x k = k x := by cases x <;> simp [fTi, fB_eq, fI_eq]
theorem fTo_eq (x : TV) (k : TV → α) : fTo x k = k x := by
  cases x <;> simp [fTo, fB_eq, fI_eq, fL_eq f0_eq, fL_eq (fL_eq f0_eq), fL_eq fTi_eq]
theorem fAi_eq (x : AC) (k : AC → α) : fAi x k = k x := by cases x <;> simp [fAi, fTi_eq]
theorem fAo_eq (x : AC) (k : AC → α) : fAo x k = k x := by
  cases x <;> simp [fAo, fTo_eq, fL_eq (fL_eq f0_eq), fN_eq, fL_eq fAi_eq]
theorem fEV_eq (x : EV) (k : EV → α) : fEV x k = k x := by cases x <;> simp [fEV, fAo_eq, fL_eq fAi_eq]
theorem fSV_eq (x : SV) (k : SV → α) : fSV x k = k x := by cases x <;> simp [fSV, fEV_eq, fL_eq fAi_eq, fL_eq fEV_eq]
theorem fHB_eq (x : HB) (k : HB → α) : fHB x k = k x := by
  cases x with
  | map l => simp only [fHB]; rw [fL_eq (fun e k => by simp [fTo_eq, fEV_eq])]
  | _ => simp [fHB, fL_eq (fL_eq fAi_eq), fL_eq f0_eq]
theorem fAt_eq : ∀ (n : Nat) (l : List SV) (k : List SV → α), fAt n l k = k l
  | _, [], k => by simp [fAt]
  | 0, x :: xs, k => by simp [fAt, fSV_eq]
  | n + 1, x :: xs, k => by simp [fAt, fAt_eq n xs]
theorem fAts_eq : ∀ (ns : List Nat) (l : List SV) (k : List SV → α), fAts ns l k = k l
  | [], l, k => rfl
  | n :: ns, l, k => by simp [fAts, fAt_eq, fAts_eq ns]
end

abbrev Ans := Option (List Out)

def AOp.touch : AOp → List Nat
  | .stb s _ _ _ => [s]
  | .app d s _ _ _ _ _ | .mvs d s | .ext d s _ => [d, s]
  | .mvb s _ d => [d, s]
  | .tc d _ _ (some (_, n)) _ => [d, n]
  | op => match op.dst with
    | some d => [d]
    | none => []
def AOp.hw : AOp → Bool
  | .hpn _ _ | .hpv _ _ | .stp _ _ _ | .mks _ _ _ _ _ | .mkm _ | .mst _ _ _ _ | .mdl _ _ _ | .rng _ _ | .nxt _ _ | .clr _ _ _ | .tc _ _ _ _ _ | .ct _ _ _ _ => true
  | _ => false
def goOn (op : AOp) (st : St) (k : St → Ans) : Ans :=
  match st with
  | ⟨sl, h⟩ => fAts op.touch sl fun sl => if op.hw then fL fHB h fun h => k ⟨sl, h⟩ else f1 h fun h => k ⟨sl, h⟩
theorem goOn_eq (op : AOp) (st : St) (k : St → Ans) : goOn op st k = k st := by
  cases st
  simp only [goOn, fAts_eq]
  split
  · rw [fL_eq fHB_eq]
  · rw [f1_eq]
def goAll (st : St) (k : St → Ans) : Ans :=
  match st with
  | ⟨sl, h⟩ => fL fSV sl fun sl => fL fHB h fun h => k ⟨sl, h⟩
theorem goAll_eq (st : St) (k : St → Ans) : goAll st k = k st := by
  cases st
  simp only [goAll, fL_eq fSV_eq, fL_eq fHB_eq]

def joinA (a b : Ans) : Ans := match a with
  | some a => match b with
    | some b => some (a ++ b)
    | none => none
  | none => none
def eachA (k : St → Ans) : List St → Ans
  | [] => some []
  | [s] => k s
  | s :: l => joinA (k s) (eachA k l)

/-- how the result of a call is taken: 0: as trees; 4: a slice on a block as a tree; else as it is -/
def mdP (m : Nat) (r : SV) : SV := if m = 0 then frS r else r
def mdA (m : Nat) (o : Out) : Option Out :=
  match o.1 with
  | .bx _ => none
  | .e (.c (.sl blk wd r len)) => if m = 4 then
      match o.2[blk]? with
      | some (.rows wd' rs) => if wd = wd' ∧ r + len ≤ rs.length then
          match tCss ((rs.drop r).take len) with
          | some rows => some (.e (.c (.t (.ts rows))), o.2.set blk .gone)
          | none => none
        else none
      | _ => none
    else some o
  | r => if m = 0 then some (frS r, o.2) else some o
/-- a call of a function of trees whose slice becomes a block -/
def pubA (p : FuncId → List TV → Option SV) (f : FuncId) (xs : List EV) (ts : List TV) (h : List HB) : Option Out :=
  if eqL EV.eqb xs (ts.map EV.ofT) then
    match p f ts with
    | some (.e (.c (.ex wd rows))) => some (.e (.c (.sl h.length wd 0 rows.length)), h ++ [.rows wd (rows.map fun r => r.map .t)])
    | some (.e (.c (.t x))) => some (.e (.c (.t x)), h)
    | _ => none
  else none

/-- operations; calls are run by p and a -/
def doO (p : FuncId → List TV → Option SV) (a : FuncId → List EV → List HB → Option Out) (st : St) (op : AOp) (k : St → Ans) : Ans :=
  match op with
  | .pc d f args m => match evTs st args with
    | some xs => match p f xs with
      | some r => goOn op (st.put d (mdP m r)) k
      | none => none
    | none => none
  | .cc d x args m => match evO st x with
    | some (.c (.t (.fn f caps))) => match evTs st args with
      | some xs => match p f (xs ++ caps) with
        | some r => goOn op (st.put d (mdP m r)) k
        | none => none
      | none => none
    | _ => none
  | .tc d f args gn m => match evGs st gn 0 args with
    | some xs =>
      if m = 3 then
        match evTs st args with
        | some ts => match pubA p f xs ts st.h with
          | some (r, h) => goOn op { sl := (setU st.sl gn).set d r, h := h } k
          | none => none
        | none => none
      else match a f xs st.h with
        | some o => match mdA m o with
          | some (r, h) => goOn op { sl := (setU st.sl gn).set d r, h := h } k
          | none => none
        | none => none
    | none => none
  | .ct d x args m => match evO st x with
    | some (.c c) => match fnOf c with
      | some (f, caps) => match evOs st args with
        | some xs => match a f (xs ++ caps) st.h with
          | some o => match mdA m o with
            | some (r, h) => goOn op { sl := st.sl.set d r, h := h } k
            | none => none
          | none => none
        | none => none
      | none => none
    | _ => none
  | .nxt d it => match nxts st d it with
    | some l => eachA (fun s => goOn op s k) l
    | none => none
  | op => match exop st op with
    | some s => goOn op s k
    | none => none

def doG (p : FuncId → List TV → Option SV) (a : FuncId → List EV → List HB → Option Out) (st : St) (o : GOp) (k : St → Ans) : Ans :=
  match o.g with
  | none => doO p a st o.op k
  | some (j, want) => match guardV (st.sl[j]?) with
    | some (some b) => if b = want then doO p a st o.op k else goOn o.op (st.clr o.op.dst) k
    | some none => goOn o.op (st.clr o.op.dst) k
    | none => none
def doR (p : FuncId → List TV → Option SV) (a : FuncId → List EV → List HB → Option Out) : List GOp → St → (St → Ans) → Ans
  | [], st, k => k st
  | o :: r, st, k => doG p a st o fun s => doR p a r s k

/-- all outcomes are the same one -/
def uniq : Ans → Option Out
  | some (x :: l) => if l.all (Out.eqb x) then some x else none
  | _ => none
theorem uniq_spec {a : Ans} {x : Out} (h : uniq a = some x) : ∃ L, a = some L ∧ ∀ y, y ∈ L → y = x := by
  unfold uniq at h
  split at h
  · rename_i x' l
    split at h
    · rename_i hl
      cases h
      refine ⟨_, rfl, fun y hy => ?_⟩
      rcases List.mem_cons.1 hy with rfl | hy
      · rfl
      · exact (Out.eqb_eq _ _ (List.all_eq_true.1 hl y hy)).symm
    · cases h
  · cases h

def wkH : Nat → List HB → List HB
  | _, [] => []
  | 0, b :: h => (match b with | .iter _ _ _ => .gone | b => b) :: wkH 0 h
  | n + 1, b :: h => b :: wkH n h
theorem wkH_less : ∀ (n : Nat) (h : List HB), Less h (wkH n h)
  | _, [] => by simp [wkH, Less]
  | 0, b :: h => by
    obtain ⟨h1, h2⟩ := wkH_less 0 h
    refine ⟨by simp [wkH, h1], fun i c e => ?_⟩
    cases i with
    | zero =>
      simp only [wkH, List.getElem?_cons_zero, Option.some.injEq] at e ⊢
      split at e
      · exact .inr e.symm
      · exact .inl e
    | succ i => simp only [wkH, List.getElem?_cons_succ] at e ⊢; exact h2 i c e
  | n + 1, b :: h => by
    obtain ⟨h1, h2⟩ := wkH_less n h
    refine ⟨by simp [wkH, h1], fun i c e => ?_⟩
    cases i with
    | zero => simp only [wkH, List.getElem?_cons_zero] at e ⊢; exact .inl e
    | succ i => simp only [wkH, List.getElem?_cons_succ] at e ⊢; exact h2 i c e

def retP (af : AF) (e : Exit) (st : St) : Ans :=
  match e with
  | .normal | .ret => match aRes st af.res with
    | some r => fSV r fun r => some [(r, [])]
    | none => none
  | _ => none
def retA (af : AF) (n : Nat) (e : Exit) (st : St) : Ans :=
  match e with
  | .normal | .ret => match aRes st af.res with
    | some r => fSV r fun r => fL fHB (wkH n st.h) fun h => some [(r, h)]
    | none => none
  | _ => none

abbrev Tab := FuncId → Option AF

def callP (tab : Tab) (ex : ACode → St → (Exit → St → Ans) → Ans) (f : FuncId) (xs : List TV) : Option SV :=
  match tab f with
  | some af => if xs.length ≤ af.nt then match uniq (goAll (initS af.nt xs) fun st => ex af.body st (retP af)) with
      | some (r, _) => if r.nr then some r else none
      | none => none
    else none
  | none => none
def callA (tab : Tab) (ex : ACode → St → (Exit → St → Ans) → Ans) (f : FuncId) (xs : List EV) (h : List HB) : Option Out :=
  match tab f with
  | some af => if xs.length ≤ af.nt then uniq (goAll (initH af.nt xs h) fun st => ex af.body st (retA af h.length)) else none
  | none => none

def step (tab : Tab) (ex : ACode → St → (Exit → St → Ans) → Ans) (c : ACode) (st : St) (k : Exit → St → Ans) : Ans :=
  match c with
  | .skip => k .normal st
  | .reg ops | .drw ops => doR (callP tab ex) (callA tab ex) ops st (k .normal)
  | .seq a b => ex a st fun e s => match e with
    | .normal => ex b s k
    | e => k e s
  | .cond c a b => match evO st c with
    | some (.c (.t (.b x))) => if x = true then ex a st k else ex b st k
    | _ => none
  | .block id a => ex a st fun e s => match e with
    | .exit i => if i = id then k .normal s else k (.exit i) s
    | e => k e s
  | .loop m a => goAll (st.msk m) fun st => ex a st fun e s => match e with
    | .normal => ex (.loop m a) s k
    | e => k e s
  | .exit id => k (.exit id) st
  | .ret => k .ret st
  | .bad => none

def exec (tab : Tab) : Nat → ACode → St → (Exit → St → Ans) → Ans
  | 0 => fun _ _ _ => none
  | n + 1 => step tab (exec tab n)

def TabOk (P : Program) (tab : Tab) : Prop := ∀ f af, tab f = some af → ∃ fn, P.funcs[f]? = some fn ∧ chkF P fn af = true

section
variable {P : Program} {tab : Tab}

def Ok (k : St → Ans) (L : List Out) (s : St) : Prop := ∃ L', k s = some L' ∧ ∀ x, x ∈ L' → x ∈ L

theorem eachA_spec {k : St → Ans} : ∀ {l : List St} {L : List Out}, eachA k l = some L → ∀ s, s ∈ l → Ok k L s
  | [], L, h, s, hs => by cases hs
  | [x], L, h, s, hs => by
    simp only [eachA] at h
    have := List.mem_singleton.1 hs; subst this
    exact ⟨L, h, fun x hx => hx⟩
  | x :: y :: l, L, h, s, hs => by
    simp only [eachA, joinA] at h
    split at h
    · rename_i a ha
      split at h
      · rename_i b hb
        cases h
        rcases List.mem_cons.1 hs with rfl | hs
        · exact ⟨a, ha, fun x hx => List.mem_append_left _ hx⟩
        · obtain ⟨L', h1, h2⟩ := eachA_spec hb s hs
          exact ⟨L', h1, fun x hx => List.mem_append_right _ (h2 x hx)⟩
      · cases h
    · cases h

theorem nr_bx {r : SV} (h : r.nr = true) : ∀ cs, r ≠ .bx cs := by rintro cs rfl; cases h
theorem mdP_sound {f : FuncId} {xs : List TV} {r : SV} (m : Nat) (h : PCalls P f xs r) (hn : r.nr = true) : PCalls P f xs (mdP m r) := by
  unfold mdP
  split
  · exact h.freeze (nr_bx hn)
  · exact h
theorem mdA_sound {f : FuncId} {xs : List EV} {h : List HB} {m : Nat} {o o' : Out} (hp : ACalls P f xs h o.1 o.2) (hm : mdA m o = some o') : ACalls P f xs h o'.1 o'.2 := by
  obtain ⟨r, h1⟩ := o
  unfold mdA at hm
  simp only at hm hp
  split at hm
  · cases hm
  · split at hm
    · split at hm
      · rename_i hb
        split at hm
        · rename_i hc
          split at hm
          · rename_i rows ht
            cases hm
            obtain ⟨rfl, hc⟩ := hc
            exact hp.unpub hb hc ht
          · cases hm
        · cases hm
      · cases hm
    · cases hm; exact hp
  · rename_i hx _
    split at hm
    · cases hm; exact hp.freeze (fun cs e => hx cs e)
    · cases hm; exact hp
theorem pubA_sound {p : FuncId → List TV → Option SV} (hp : ∀ f xs r, p f xs = some r → PCalls P f xs r ∧ r.nr = true) {f : FuncId} {xs : List EV} {ts : List TV} {h h' : List HB} {r : SV} (hc : pubA p f xs ts h = some (r, h')) : ACalls P f xs h r h' := by
  unfold pubA at hc
  split at hc
  · rename_i he
    have := eqL_eq EV.eqb_eq _ _ he
    subst this
    split at hc
    · rename_i h1; cases hc; exact (hp _ _ _ h1).1.pub
    · rename_i h1; cases hc; exact (hp _ _ _ h1).1.toA rfl
    · cases hc
  · cases hc

theorem doO_sound {p : FuncId → List TV → Option SV} {a : FuncId → List EV → List HB → Option Out} (hp : ∀ f xs r, p f xs = some r → PCalls P f xs r ∧ r.nr = true) (ha : ∀ f xs h r h', a f xs h = some (r, h') → ACalls P f xs h r h')
    {st : St} {op : AOp} {k : St → Ans} {L : List Out} (h : doO p a st op k = some L) : owp P (Ok k L) st op := by
  cases op <;> simp only [doO, goOn_eq] at h <;> simp only [owp]
  case pc d f args m =>
    split at h
    · rename_i xs h1
      split at h
      · rename_i r h2
        exact ⟨xs, _, h1, mdP_sound m (hp _ _ _ h2).1 (hp _ _ _ h2).2, L, h, fun x hx => hx⟩
      · cases h
    · cases h
  case cc d x args m =>
    split at h
    · rename_i f caps h0
      split at h
      · rename_i xs h1
        split at h
        · rename_i r h2
          exact ⟨f, caps, xs, _, h0, h1, mdP_sound m (hp _ _ _ h2).1 (hp _ _ _ h2).2, L, h, fun x hx => hx⟩
        · cases h
      · cases h
    · cases h
  case tc d f args gn m =>
    split at h
    · rename_i xs h1
      split at h
      · split at h
        · rename_i ts ht
          split at h
          · rename_i r hh h2
            exact ⟨xs, r, hh, h1, pubA_sound hp h2, L, h, fun x hx => hx⟩
          · cases h
        · cases h
      · split at h
        · rename_i o h2
          split at h
          · rename_i r hh h3
            exact ⟨xs, r, hh, h1, mdA_sound (o' := (r, hh)) (ha _ _ _ _ _ h2) h3, L, h, fun x hx => hx⟩
          · cases h
        · cases h
    · cases h
  case ct d x args m =>
    split at h
    · rename_i c h0
      split at h
      · rename_i f caps hf
        split at h
        · rename_i xs h1
          split at h
          · rename_i o h2
            split at h
            · rename_i r hh h3
              exact ⟨c, f, caps, xs, r, hh, h0, hf, h1, mdA_sound (o' := (r, hh)) (ha _ _ _ _ _ h2) h3, L, h, fun x hx => hx⟩
            · cases h
          · cases h
        · cases h
      · cases h
    · cases h
  case nxt d it =>
    split at h
    · rename_i l h1
      refine ⟨l, h1, fun s hs => ?_⟩
      obtain ⟨L', q1, q2⟩ := eachA_spec h s hs
      simp only at q1
      exact ⟨L', q1, q2⟩
    · cases h
  all_goals
    split at h
    · rename_i s h1
      exact ⟨s, h1, L, h, fun x hx => hx⟩
    · cases h

theorem doG_sound {p : FuncId → List TV → Option SV} {a : FuncId → List EV → List HB → Option Out} (hp : ∀ f xs r, p f xs = some r → PCalls P f xs r ∧ r.nr = true) (ha : ∀ f xs h r h', a f xs h = some (r, h') → ACalls P f xs h r h')
    {st : St} {o : GOp} {k : St → Ans} {L : List Out} (h : doG p a st o k = some L) : gwp P o (Ok k L) st := by
  unfold doG at h
  unfold gwp
  split at h
  · rename_i hg; rw [hg]; exact doO_sound hp ha h
  · rename_i j want hg
    rw [hg]
    split at h
    · rename_i b hb
      refine ⟨some b, hb, ?_⟩
      split at h
      · rename_i e; rw [if_pos (by rw [e])]; exact doO_sound hp ha h
      · rename_i e; rw [if_neg (by simpa using e)]; rw [goOn_eq] at h; exact ⟨L, h, fun x hx => hx⟩
    · rename_i hb
      refine ⟨none, hb, ?_⟩
      rw [if_neg (by simp)]; rw [goOn_eq] at h; exact ⟨L, h, fun x hx => hx⟩
    · cases h

theorem doR_sound {p : FuncId → List TV → Option SV} {a : FuncId → List EV → List HB → Option Out} (hp : ∀ f xs r, p f xs = some r → PCalls P f xs r ∧ r.nr = true) (ha : ∀ f xs h r h', a f xs h = some (r, h') → ACalls P f xs h r h') :
    ∀ {ops : List GOp} {st : St} {k : St → Ans} {L : List Out}, doR p a ops st k = some L → rwp P ops (Ok k L) st
  | [], st, k, L, h => ⟨L, h, fun x hx => hx⟩
  | o :: r, st, k, L, h => by
    simp only [doR] at h
    refine gwp_mono (fun s hs => ?_) (doG_sound hp ha h)
    obtain ⟨L', h1, h2⟩ := hs
    refine rwp_mono (fun s hs => ?_) (doR_sound hp ha h1)
    obtain ⟨L'', h3, h4⟩ := hs
    exact ⟨L'', h3, fun x hx => h2 x (h4 x hx)⟩

def ExOk (P : Program) (ex : ACode → St → (Exit → St → Ans) → Ans) : Prop :=
  ∀ c st k L, ex c st k = some L → awp P c (fun e s => Ok (k e) L s) st

theorem callP_sound (ht : TabOk P tab) {ex : ACode → St → (Exit → St → Ans) → Ans} (hx : ExOk P ex) {f : FuncId} {xs : List TV} {r : SV} (h : callP tab ex f xs = some r) : PCalls P f xs r ∧ r.nr = true := by
  unfold callP at h
  split at h
  · rename_i af hf
    obtain ⟨fn, h1, h2⟩ := ht f af hf
    split at h
    · rename_i hl
      split at h
      · rename_i r' hh hu
        split at h
        · rename_i hnr
          cases h
          obtain ⟨L, e1, e2⟩ := uniq_spec hu
          rw [goAll_eq] at e1
          refine ⟨pcalls_intro h1 h2 hnr hl (awp_mono (fun e s hs => ?_) (hx _ _ _ _ e1)), hnr⟩
          obtain ⟨L', q1, q2⟩ := hs
          cases e <;> simp only [retP] at q1 <;> first | (cases q1; done) | skip
          all_goals
            split at q1
            · rename_i r2 hr2
              rw [fSV_eq] at q1
              cases q1
              have := e2 _ (q2 _ (List.mem_singleton.2 rfl))
              cases this
              exact hr2
            · cases q1
        · cases h
      · cases h
    · cases h
  · cases h

theorem callA_sound (ht : TabOk P tab) {ex : ACode → St → (Exit → St → Ans) → Ans} (hx : ExOk P ex) {f : FuncId} {xs : List EV} {h h' : List HB} {r : SV} (hc : callA tab ex f xs h = some (r, h')) : ACalls P f xs h r h' := by
  unfold callA at hc
  split at hc
  · rename_i af hf
    obtain ⟨fn, h1, h2⟩ := ht f af hf
    split at hc
    · rename_i hl
      obtain ⟨L, e1, e2⟩ := uniq_spec hc
      rw [goAll_eq] at e1
      refine acalls_intro h1 h2 hl (awp_mono (fun e s hs => ?_) (hx _ _ _ _ e1))
      obtain ⟨L', q1, q2⟩ := hs
      cases e <;> simp only [retA] at q1 <;> first | (cases q1; done) | skip
      all_goals
        split at q1
        · rename_i r2 hr2
          rw [fSV_eq, fL_eq fHB_eq] at q1
          cases q1
          have := e2 _ (q2 _ (List.mem_singleton.2 rfl))
          cases this
          exact ⟨hr2, wkH_less _ _⟩
        · cases q1
    · cases hc
  · cases hc

theorem step_sound (ht : TabOk P tab) {ex : ACode → St → (Exit → St → Ans) → Ans} (hx : ExOk P ex) : ExOk P (step tab ex) := by
  intro c st k L h
  cases c <;> simp only [step] at h
  case skip => exact ⟨L, h, fun x hx => hx⟩
  case reg ops => exact doR_sound (fun f xs r => callP_sound ht hx) (fun f xs h r h' => callA_sound ht hx) h
  case drw ops => exact doR_sound (fun f xs r => callP_sound ht hx) (fun f xs h r h' => callA_sound ht hx) h
  case seq a b =>
    refine awp_mono (c := a) (fun e s hs => ?_) (hx _ _ _ _ h)
    obtain ⟨L', h1, h2⟩ := hs
    cases e <;> simp only at h1 <;> first
      | (refine awp_mono (c := b) (fun e s hs => ?_) (hx _ _ _ _ h1)
         obtain ⟨L'', h3, h4⟩ := hs
         exact ⟨L'', h3, fun x hx => h2 x (h4 x hx)⟩)
      | exact ⟨L', h1, h2⟩
  case cond c a b =>
    split at h
    · rename_i x hb
      refine ⟨x, hb, ?_⟩
      split at h
      · rename_i e; rw [if_pos e]; exact hx _ _ _ _ h
      · rename_i e; rw [if_neg e]; exact hx _ _ _ _ h
    · cases h
  case block id a =>
    refine awp_mono (c := a) (fun e s hs => ?_) (hx _ _ _ _ h)
    obtain ⟨L', h1, h2⟩ := hs
    cases e <;> simp only at h1 <;> first
      | exact ⟨L', h1, h2⟩
      | (simp only [blockA]
         split at h1
         · rename_i e; rw [if_pos e]; exact ⟨L', h1, h2⟩
         · rename_i e; rw [if_neg e]; exact ⟨L', h1, h2⟩)
  case loop m a =>
    rw [goAll_eq] at h
    refine awp_loop (awp_mono (c := a) (fun e s hs => ?_) (hx _ _ _ _ h))
    obtain ⟨L', h1, h2⟩ := hs
    cases e <;> simp only at h1 <;> first
      | (refine awp_mono (c := .loop m a) (fun e s hs => ?_) (hx _ _ _ _ h1)
         obtain ⟨L'', h3, h4⟩ := hs
         exact ⟨L'', h3, fun x hx => h2 x (h4 x hx)⟩)
      | exact ⟨L', h1, h2⟩
  case exit id => exact ⟨L, h, fun x hx => hx⟩
  case ret => exact ⟨L, h, fun x hx => hx⟩
  case bad => cases h

theorem exec_sound (ht : TabOk P tab) : ∀ n, ExOk P (exec tab n)
  | 0 => fun c st k L h => by simp [exec] at h
  | n + 1 => step_sound ht (exec_sound ht n)

/-- a run of a function of trees -/
theorem run_pcalls (ht : TabOk P tab) {n : Nat} {f : FuncId} {xs : List TV} {r : SV} (h : callP tab (exec tab n) f xs = some r) : PCalls P f xs r :=
  (callP_sound ht (exec_sound ht n) h).1
theorem run_acalls (ht : TabOk P tab) {n : Nat} {f : FuncId} {xs : List EV} {h h' : List HB} {r : SV} (hc : callA tab (exec tab n) f xs h = some (r, h')) : ACalls P f xs h r h' :=
  callA_sound ht (exec_sound ht n) hc

/- a table out of rows of sixteen -/
def OkRow (P : Program) : Nat → List (Option AF) → Prop
  | _, [] => True
  | n, none :: l => OkRow P (n + 1) l
  | n, some c :: l => (∃ fn, P.funcs[n]? = some fn ∧ chkF P fn c = true) ∧ OkRow P (n + 1) l
def OkRows (P : Program) : Nat → List (List (Option AF)) → Prop
  | _, [] => True
  | n, l :: r => OkRow P n l ∧ OkRows P (n + 16) r
def tabOf (rows : List (List (Option AF))) : Tab := fun f => match rows[f / 16]? with
  | some l => match l[f % 16]? with
    | some x => x
    | none => none
  | none => none
theorem okRow_get : ∀ {l : List (Option AF)} {n j : Nat} {c : AF}, OkRow P n l → l[j]? = some (some c) → ∃ fn, P.funcs[n + j]? = some fn ∧ chkF P fn c = true
  | [], n, j, c, _, h => by simp at h
  | x :: l, n, 0, c, ho, h => by
    simp at h; subst h
    exact ho.1
  | none :: l, n, j + 1, c, ho, h => by
    have := okRow_get (l := l) (n := n + 1) (j := j) ho (by simpa using h)
    rw [show n + (j + 1) = n + 1 + j by omega]; exact this
  | some x :: l, n, j + 1, c, ho, h => by
    have := okRow_get (l := l) (n := n + 1) (j := j) ho.2 (by simpa using h)
    rw [show n + (j + 1) = n + 1 + j by omega]; exact this
theorem okRows_get : ∀ {rows : List (List (Option AF))} {n i j : Nat} {l : List (Option AF)} {c : AF}, OkRows P n rows → rows[i]? = some l → l[j]? = some (some c) → ∃ fn, P.funcs[n + 16 * i + j]? = some fn ∧ chkF P fn c = true
  | [], n, i, j, l, c, _, h, _ => by simp at h
  | x :: r, n, 0, j, l, c, ho, h, h2 => by
    simp at h; subst h
    exact okRow_get ho.1 h2
  | x :: r, n, i + 1, j, l, c, ho, h, h2 => by
    have := okRows_get (rows := r) (n := n + 16) (i := i) ho.2 (by simpa using h) h2
    rw [show n + 16 * (i + 1) + j = n + 16 + 16 * i + j by omega]; exact this
theorem tabOf_ok {rows : List (List (Option AF))} (h : OkRows P 0 rows) : TabOk P (tabOf rows) := by
  intro f af hf
  unfold tabOf at hf
  split at hf
  · rename_i l hl
    split at hf
    · rename_i x hx
      subst hf
      obtain ⟨fn, h1, h2⟩ := okRows_get h hl hx
      have e : ∀ n : Nat, 0 + 16 * (n / 16) + n % 16 = n := fun n => by omega
      exact ⟨fn, by rw [← h1]; exact congrArg (fun n => P.funcs[n]?) (e f).symm, h2⟩
    · cases hf
  · cases hf

end
end Go.Abs
