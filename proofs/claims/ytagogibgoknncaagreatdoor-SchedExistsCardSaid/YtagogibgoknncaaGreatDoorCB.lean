/-
  A fast runner of abstract codes: operands and expressions. Program-independent.
-/
import Derived.Test.YtagogibgoknncaaGreatDoorCA
set_option linter.unusedVariables false
set_option linter.unusedSimpArgs false
set_option linter.unusedSectionVars false
namespace Go.B
variable [iok : OkC]
def ob {α : Type} (o : Option α) (k : α → Ans) : Ans := match o with
 | some v => k v
 | none => none
theorem u4 {α : Type} {o : Option α} {k : α → Ans} {L : Out} (h : ob o k = some L) : ∃ v, o = some v ∧ k v = some L := by
 cases o with
 | none => cases h
 | some v => exact ⟨v, rfl, h⟩
noncomputable def fZ (n : Int) (k : Int → Ans) : Ans :=
 Int.rec (motive := fun _ => (Int → Ans) → Ans) (fun m k => Nat.rec (motive := fun _ => Ans) (k (.ofNat 0)) (fun m _ => k (.ofNat (Nat.succ m))) m)
  (fun m k => Nat.rec (motive := fun _ => Ans) (k (.negSucc 0)) (fun m _ => k (.negSucc (Nat.succ m))) m) n k
theorem fZ_eq (n : Int) (k : Int → Ans) : fZ n k = k n := by
 cases n with
 | ofNat m => cases m <;> rfl
 | negSucc m => cases m <;> rfl
noncomputable def fBo (b : Bool) (k : Bool → Ans) : Ans := Bool.rec (motive := fun _ => Ans) (k false) (k true) b
theorem av9 (b : Bool) (k : Bool → Ans) : fBo b k = k b := by cases b <;> rfl
noncomputable def fNa (n : Nat) (k : Nat → Ans) : Ans := Nat.rec (motive := fun _ => Ans) (k 0) (fun m _ => k (Nat.succ m)) n
theorem ac9 (n : Nat) (k : Nat → Ans) : fNa n k = k n := by cases n <;> rfl
noncomputable def fOp (n : Option Nat) (k : Option Nat → Ans) : Ans := Option.rec (motive := fun _ => Ans) (k none) (fun n => fNa n fun n => k (some n)) n
theorem fOp_eq (n : Option Nat) (k : Option Nat → Ans) : fOp n k = k n := by cases n with
 | none => rfl
 | some n => exact ac9 n (fun n => k (some n))
noncomputable def fSp {α : Type} (l : List α) : (List α → Ans) → Ans := List.rec (motive := fun _ => (List α → Ans) → Ans) (fun k => k []) (fun x _ ih k => ih fun l => k (x :: l)) l
theorem fSp_eq {α : Type} : ∀ (l : List α) (k : List α → Ans), fSp l k = k l
 | [], k => rfl
 | x :: l, k => fSp_eq l fun l => k (x :: l)
noncomputable def ifB (b : Bool) (A B : Ans) : Ans := Bool.rec (motive := fun _ => Ans) B A b
theorem p8 {b : Bool} {A B : Ans} {L : Out} (h : ifB b A B = some L) : (b = true ∧ A = some L) ∨ (b = false ∧ B = some L) := by cases b <;> first | exact .inl ⟨rfl, h⟩ | exact .inr ⟨rfl, h⟩
theorem bh9 {a b : Nat} (h : Nat.blt a b = true) : a < b := Nat.le_of_ble_eq_true h
noncomputable def wV (x : V) (k : W → Ans) : Ans := match x with
 | .b x => fBo x fun x => k (.b x)
 | .i kd n => fZ n fun n => k (.i kd n)
 | .s l n => fNa l fun l => fNa n fun n => k (.s l n)
 | .p a o => fNa a fun a => fNa o fun o => k (.p a o)
 | .sl a off wd len cp => fNa a fun a => fNa off fun off => fNa len fun len => fOp cp fun cp => k (.sl a off wd len cp)
 | .ns => k .ns
 | .np => k .np
 | .m a => fNa a fun a => k (.m a)
 | x => k (.z x)
theorem wV_eq (x : V) (k : W → Ans) : wV x k = k (W.ofV x) := by cases x <;> simp [wV, W.ofV, av9, fZ_eq, ac9, fOp_eq]
noncomputable def wVs (l : List V) : (List W → Ans) → Ans := List.rec (motive := fun _ => (List W → Ans) → Ans) (fun k => k []) (fun x _ ih k => wV x fun x => ih fun l => k (x :: l)) l
theorem av5 : ∀ (l : List V) (k : List W → Ans), wVs l k = k (l.map W.ofV)
 | [], k => rfl
 | x :: l, k => by
   show wV x (fun x => wVs l fun l => k (x :: l)) = _
   rw [wV_eq, av5 l]; rfl
noncomputable def aV (x : V) (k : A → Ans) : Ans := match x with
 | .ag cs => wVs cs fun l => k (.ag l)
 | x => wV x fun w => k (.w w)
theorem aV_v (x : V) (k : A → Ans) {L : Out} (h : aV x k = some L) : ∃ s : A, s.v = x ∧ k s = some L := by
 unfold aV at h
 split at h
 ·rw [av5] at h; exact ⟨_, A.v_of (.ag _), h⟩
 ·rw [wV_eq] at h; exact ⟨.w (W.ofV x), W.v_of x, h⟩
noncomputable def aVs (l : List V) : (List A → Ans) → Ans := List.rec (motive := fun _ => (List A → Ans) → Ans) (fun k => k []) (fun x _ ih k => aV x fun x => ih fun l => k (x :: l)) l
theorem aVs_v : ∀ (l : List V) (k : List A → Ans) {L : Out}, aVs l k = some L → ∃ s : List A, s.map A.v = l ∧ k s = some L
 | [], k, L, h => ⟨[], rfl, h⟩
 | x :: l, k, L, h => by
   change aV x (fun x => aVs l fun l => k (x :: l)) = some L at h
   obtain ⟨s, h1, h2⟩ := aV_v _ _ h
   obtain ⟨r, h3, h4⟩ := aVs_v l _ h2
   exact ⟨s :: r, by simp [h1, h3], h4⟩
noncomputable def sV (x : V) (k : S → Ans) : Ans := match x with
 | .ag cs => wVs cs fun l => k (.ag l)
 | .tu xs => aVs xs fun l => k (.tu l)
 | x => wV x fun w => k (.w w)
theorem sV_v (x : V) (k : S → Ans) {L : Out} (h : sV x k = some L) : ∃ s : S, s.v = x ∧ k s = some L := by
 unfold sV at h
 split at h
 ·rw [av5] at h; exact ⟨_, S.v_of (.ag _), h⟩
 ·obtain ⟨s, h1, h2⟩ := aVs_v _ _ h
  exact ⟨.tu s, congrArg V.tu h1, h2⟩
 ·rw [wV_eq] at h; exact ⟨.w (W.ofV x), W.v_of x, h⟩
noncomputable def sVs (l : List V) : (List S → Ans) → Ans := List.rec (motive := fun _ => (List S → Ans) → Ans) (fun k => k []) (fun x _ ih k => sV x fun x => ih fun l => k (x :: l)) l
theorem sVs_v : ∀ (l : List V) (k : List S → Ans) {L : Out}, sVs l k = some L → ∃ s : List S, s.map S.v = l ∧ k s = some L
 | [], k, L, h => ⟨[], rfl, h⟩
 | x :: l, k, L, h => by
   change sV x (fun x => sVs l fun l => k (x :: l)) = some L at h
   obtain ⟨s, h1, h2⟩ := sV_v _ _ h
   obtain ⟨r, h3, h4⟩ := sVs_v l _ h2
   exact ⟨s :: r, by simp [h1, h3], h4⟩
noncomputable def vW (w : W) (k : V → Ans) : Ans := W.rec (motive := fun _ => Ans) (fun x => k (.b x)) (fun kd n => k (.i kd n)) (fun l n => k (.s l n)) (fun a o => k (.p a o)) (fun a off wd len cp => k (.sl a off wd len cp)) (k .ns) (k .np) (fun a => k (.m a)) (fun x => k x) w
theorem vW_eq (w : W) (k : V → Ans) : vW w k = k w.v := by cases w <;> rfl
noncomputable def vWs (l : List W) : (List V → Ans) → Ans := List.rec (motive := fun _ => (List V → Ans) → Ans) (fun k => k []) (fun x _ ih k => vW x fun x => ih fun l => k (x :: l)) l
theorem vWs_eq : ∀ (l : List W) (k : List V → Ans), vWs l k = k (l.map W.v)
 | [], k => rfl
 | x :: l, k => by
   show vW x (fun x => vWs l fun l => k (x :: l)) = _
   rw [vW_eq, vWs_eq l]; rfl
noncomputable def vS (s : S) (k : V → Ans) : Ans := S.rec (motive := fun _ => Ans) (fun w => vW w k) (fun cs => vWs cs fun l => k (.ag l)) (fun xs => k (.tu (xs.map A.v))) s
theorem ao7 (s : S) (k : V → Ans) : vS s k = k s.v := by
 cases s with
 | w x => exact vW_eq x k
 | ag cs => exact vWs_eq cs _
 | tu xs => rfl
noncomputable def vSs (l : List S) : (List V → Ans) → Ans := List.rec (motive := fun _ => (List V → Ans) → Ans) (fun k => k []) (fun x _ ih k => vS x fun x => ih fun l => k (x :: l)) l
theorem vSs_eq : ∀ (l : List S) (k : List V → Ans), vSs l k = k (l.map S.v)
 | [], k => rfl
 | x :: l, k => by
   show vS x (fun x => vSs l fun l => k (x :: l)) = _
   rw [ao7, vSs_eq l]; rfl
noncomputable def be8 (c : Prop) [d : Decidable c] (A : Ans) : Ans := Decidable.rec (motive := fun _ => Ans) (fun _ => none) (fun _ => A) d
theorem condK_eq (c : Prop) [d : Decidable c] (A : Ans) : be8 c A = if c then A else none := by
 unfold be8; cases d <;> rfl
theorem ai7 {c : Prop} [Decidable c] {A : Ans} {L : Out} (h : be8 c A = some L) : c ∧ A = some L := by
 rw [condK_eq] at h
 split at h
 ·exact ⟨by assumption, h⟩
 ·cases h
noncomputable def eqNK (a b : Nat) (A : Ans) : Ans := Bool.rec (motive := fun _ => Ans) none A (Nat.beq a b)
theorem af8 {m n : Nat} {A : Ans} {L : Out} (h : eqNK m n A = some L) : m = n ∧ A = some L := by
 unfold eqNK at h
 cases hq : Nat.beq m n <;> rw [hq] at h
 ·cases h
 ·exact ⟨Nat.eq_of_beq_eq_true hq, h⟩
noncomputable def sB (s : S) (A B : Ans) : Ans := S.rec (motive := fun _ => Ans) (fun w => W.rec (motive := fun _ => Ans) (fun x => Bool.rec (motive := fun _ => Ans) B A x) (fun _ _ => none) (fun _ _ => none) (fun _ _ => none) (fun _ _ _ _ _ => none) none none (fun _ => none) (fun _ => none) w) (fun _ => none) (fun _ => none) s
noncomputable def sI (s : S) (k : IntKind → Int → Ans) : Ans := S.rec (motive := fun _ => Ans) (fun w => W.rec (motive := fun _ => Ans) (fun _ => none) (fun kd n => k kd n) (fun _ _ => none) (fun _ _ => none) (fun _ _ _ _ _ => none) none none (fun _ => none) (fun _ => none) w) (fun _ => none) (fun _ => none) s
noncomputable def sP (s : S) (k : Nat → Nat → Ans) : Ans := S.rec (motive := fun _ => Ans) (fun w => W.rec (motive := fun _ => Ans) (fun _ => none) (fun _ _ => none) (fun _ _ => none) (fun a o => k a o) (fun _ _ _ _ _ => none) none none (fun _ => none) (fun _ => none) w) (fun _ => none) (fun _ => none) s
noncomputable def sSl (s : S) (k : Nat → Nat → Nat → Nat → Option Nat → Ans) : Ans := S.rec (motive := fun _ => Ans) (fun w => W.rec (motive := fun _ => Ans) (fun _ => none) (fun _ _ => none) (fun _ _ => none) (fun _ _ => none) (fun a o w l c => k a o w l c) none none (fun _ => none) (fun _ => none) w) (fun _ => none) (fun _ => none) s
noncomputable def sMp (s : S) (k : Nat → Ans) : Ans := S.rec (motive := fun _ => Ans) (fun w => W.rec (motive := fun _ => Ans) (fun _ => none) (fun _ _ => none) (fun _ _ => none) (fun _ _ => none) (fun _ _ _ _ _ => none) none none (fun a => k a) (fun _ => none) w) (fun _ => none) (fun _ => none) s
noncomputable def sAg (s : S) (k : List W → Ans) : Ans := S.rec (motive := fun _ => Ans) (fun _ => none) (fun cs => k cs) (fun _ => none) s
noncomputable def sTu (s : S) (k : List A → Ans) : Ans := S.rec (motive := fun _ => Ans) (fun _ => none) (fun _ => none) (fun xs => k xs) s
section
variable {s : S} {L : Out}
theorem sB_spec {A B : Ans} (h : sB s A B = some L) : (s.v = .b true ∧ A = some L) ∨ (s.v = .b false ∧ B = some L) := by
 rcases s with w | _ | _ <;> first | (cases h; done) | skip
 cases w <;> first | (cases h; done) | skip
 rename_i x
 cases x
 ·exact .inr ⟨rfl, h⟩
 ·exact .inl ⟨rfl, h⟩
theorem az5 {k : IntKind → Int → Ans} (h : sI s k = some L) : ∃ kd n, s.v = .i kd n ∧ k kd n = some L := by
 rcases s with w | _ | _ <;> first | (cases h; done) | skip
 cases w <;> first | (cases h; done) | exact ⟨_, _, rfl, h⟩
theorem sP_spec {k : Nat → Nat → Ans} (h : sP s k = some L) : ∃ a o, s.v = .p a o ∧ k a o = some L := by
 rcases s with w | _ | _ <;> first | (cases h; done) | skip
 cases w <;> first | (cases h; done) | exact ⟨_, _, rfl, h⟩
theorem ax0 {k : Nat → Nat → Nat → Nat → Option Nat → Ans} (h : sSl s k = some L) : ∃ a o w l c, s.v = .sl a o w l c ∧ k a o w l c = some L := by
 rcases s with w | _ | _ <;> first | (cases h; done) | skip
 cases w <;> first | (cases h; done) | exact ⟨_, _, _, _, _, rfl, h⟩
theorem sMp_spec {k : Nat → Ans} (h : sMp s k = some L) : ∃ a, s.v = .m a ∧ k a = some L := by
 rcases s with w | _ | _ <;> first | (cases h; done) | skip
 cases w <;> first | (cases h; done) | exact ⟨_, rfl, h⟩
theorem sAg_spec {k : List W → Ans} (h : sAg s k = some L) : ∃ cs, s = .ag cs ∧ k cs = some L := by
 rcases s with _ | cs | _ <;> first | (cases h; done) | exact ⟨_, rfl, h⟩
theorem sTu_spec {k : List A → Ans} (h : sTu s k = some L) : ∃ cs, s = .tu cs ∧ k cs = some L := by
 rcases s with _ | _ | cs <;> first | (cases h; done) | exact ⟨_, rfl, h⟩
end
noncomputable def wO (a : AO) : Vn → (S → Ans) → Ans := AO.rec (motive := fun _ => Vn → (S → Ans) → Ans) (fun n e k => gE n e k) (fun x _ k => k (S.ofV x)) a
def wOv (a : AO) (e : Vn) : S := match a with
 | .s n => e.at n
 | .k x => S.ofV x
theorem z8 (a : AO) (e : Vn) (k : S → Ans) : wO a e k = k (wOv a e) := by
 cases a with
 | s n => exact gE_eq n e k
 | k x => rfl
theorem ad2 (a : AO) (e : Vn) : (wOv a e).v = evO e.sl a := by
 cases a with
 | s n => rfl
 | k x => exact S.v_of x
noncomputable def wOs (l : List AO) : Vn → (List S → Ans) → Ans := List.rec (motive := fun _ => Vn → (List S → Ans) → Ans) (fun _ k => k []) (fun a _ ih e k => wO a e fun x => ih e fun l => k (x :: l)) l
theorem bf1 : ∀ (l : List AO) (e : Vn) (k : List S → Ans), wOs l e k = k (l.map fun a => wOv a e)
 | [], e, k => rfl
 | a :: l, e, k => by
   show wO a e (fun x => wOs l e fun l => k (x :: l)) = _
   rw [z8, bf1 l]; rfl
theorem ay3 (l : List AO) (e : Vn) : (l.map fun a => wOv a e).map S.v = ae5 e.sl l := by
 simp only [List.map_map, ae5]
 exact List.map_congr_left fun a _ => ad2 a e
noncomputable def wOo (a : Option AO) (e : Vn) (k : Option AO → Ans) : Ans := match a with
 | none => k none
 | some a => wO a e fun v => vS v fun v => k (some (.k v))
def cOo (sl : Nat → V) : Option AO → Option AO
 | none => none
 | some a => some (.k (evO sl a))
theorem wOo_eq (a : Option AO) (e : Vn) (k : Option AO → Ans) : wOo a e k = k (cOo e.sl a) := by
 cases a with
 | none => rfl
 | some a => simp only [wOo, z8, ao7, ad2, cOo]
noncomputable def atK {α : Type} (n : Nat) : List α → (α → Ans) → Ans :=
 Nat.rec (motive := fun _ => List α → (α → Ans) → Ans) (fun l k => List.rec (motive := fun _ => Ans) none (fun x _ _ => k x) l) (fun _ ih l k => List.rec (motive := fun _ => Ans) none (fun _ l _ => ih l k) l) n
theorem atK_spec {α : Type} {L : Out} : ∀ {n : Nat} {l : List α} {k : α → Ans}, atK n l k = some L → ∃ x, l[n]? = some x ∧ k x = some L
 | 0, [], k, h => by cases h
 | 0, x :: l, k, h => ⟨x, rfl, h⟩
 | n + 1, [], k, h => by cases h
 | n + 1, x :: l, k, h => by rw [List.getElem?_cons_succ]; exact atK_spec (n := n) h
noncomputable def dropK {α : Type} (n : Nat) : List α → (List α → Ans) → Ans :=
 Nat.rec (motive := fun _ => List α → (List α → Ans) → Ans) (fun l k => k l) (fun _ ih l k => List.rec (motive := fun _ => Ans) none (fun _ l _ => ih l k) l) n
theorem dropK_eq {α : Type} : ∀ (n : Nat) (l : List α) (k : List α → Ans), dropK n l k = if n ≤ l.length then k (l.drop n) else none
 | 0, l, k => by rw [if_pos (Nat.zero_le _)]; rfl
 | n + 1, [], k => by rw [if_neg (by simp)]; rfl
 | n + 1, x :: l, k => by
   show dropK n l k = _
   rw [dropK_eq n l k]
   simp
noncomputable def takeA {α : Type} (n : Nat) : List α → (List α → Ans) → Ans :=
 Nat.rec (motive := fun _ => List α → (List α → Ans) → Ans) (fun _ k => k []) (fun _ ih l k => List.rec (motive := fun _ => Ans) none (fun x l _ => ih l fun l => k (x :: l)) l) n
theorem takeA_eq {α : Type} : ∀ (n : Nat) (l : List α) (k : List α → Ans), takeA n l k = if n ≤ l.length then k (l.take n) else none
 | 0, l, k => by rw [if_pos (Nat.zero_le _)]; rfl
 | n + 1, [], k => by rw [if_neg (by simp)]; rfl
 | n + 1, x :: l, k => by
   show takeA n l (fun l => k (x :: l)) = _
   rw [takeA_eq n l]
   simp
theorem at3 {α : Type} {n : Nat} {l : List α} {kk : List α → Ans} {L : Out} (h : takeA n l kk = some L) : n ≤ l.length ∧ kk (l.take n) = some L := by
 rw [takeA_eq] at h
 split at h
 ·exact ⟨by assumption, h⟩
 ·cases h
noncomputable def cutK {α : Type} (col n : Nat) (l : List α) (k : List α → Ans) : Ans := dropK col l fun l => takeA n l k
theorem bc7 {α : Type} {col n : Nat} {l : List α} {kk : List α → Ans} {L : Out} (h : cutK col n l kk = some L) : col + n ≤ l.length ∧ kk ((l.drop col).take n) = some L := by
 simp only [cutK, dropK_eq] at h
 split at h
 ·obtain ⟨h1, h2⟩ := at3 h
  simp at h1
  exact ⟨by omega, h2⟩
 ·cases h
noncomputable def cutA (col n : Nat) (agg : Bool) (l : List W) (k : S → Ans) : Ans := Bool.rec (motive := fun _ => Ans) (eqNK n 1 (atK col l fun w => k (.w w))) (cutK col n l fun l => k (.ag l)) agg
theorem bc8 {col n : Nat} {agg : Bool} {l : List W} {k : S → Ans} {L : Out} (h : cutA col n agg l k = some L) : ∃ s : S, col + n ≤ l.length ∧ pack agg (((l.map W.v).drop col).take n) = some s.v ∧ k s = some L := by
 cases agg with
 | true =>
   obtain ⟨h1, h2⟩ := bc7 (show cutK col n l _ = some L from h)
   refine ⟨_, h1, ?_, h2⟩
   show some (V.ag _) = some (V.ag _)
   simp only [List.map_take, List.map_drop]
 | false =>
   obtain ⟨rfl, h2⟩ := af8 (show eqNK n 1 _ = some L from h)
   obtain ⟨w, h3, h4⟩ := atK_spec h2
   have hlt := ai4 h3
   refine ⟨.w w, by omega, ?_, h4⟩
   have : ((l.map W.v).drop col).take 1 = [w.v] := by
    have h5 : (l.map W.v)[col]? = some w.v := by rw [List.getElem?_map, h3]; rfl
    have h6 : ((l.map W.v).drop col).head? = some w.v := by rw [List.head?_drop]; exact h5
    cases hd : (l.map W.v).drop col with
    | nil => rw [hd] at h6; cases h6
    | cons y ys => rw [hd] at h6; simp at h6; subst h6; simp
   rw [this]; rfl
noncomputable def overK (v : List W) : List W → (List W → Ans) → Ans :=
 List.rec (motive := fun _ => List W → (List W → Ans) → Ans) (fun cs k => k cs) (fun y _ ih cs k => List.rec (motive := fun _ => Ans) none (fun _ cs _ => ih cs fun r => k (y :: r)) cs) v
noncomputable def putK (off : Nat) (v : List W) : List W → (List W → Ans) → Ans :=
 Nat.rec (motive := fun _ => List W → (List W → Ans) → Ans) (fun cs k => overK v cs k) (fun _ ih cs k => List.rec (motive := fun _ => Ans) none (fun x cs _ => ih cs fun r => k (x :: r)) cs) off
theorem at8 (x : V) : ∀ (v : List V) (cs : List V) (off : Nat), putAt (x :: cs) (off + 1) v = x :: putAt cs off v
 | [], cs, off => rfl
 | y :: v, cs, off => by simp only [putAt, List.set_cons_succ]; exact at8 x v (cs.set off y) (off + 1)
theorem bg2 {L : Out} : ∀ {v cs : List W} {k : List W → Ans}, overK v cs k = some L → v.length ≤ cs.length ∧ ∃ r : List W, r.map W.v = putAt (cs.map W.v) 0 (v.map W.v) ∧ k r = some L
 | [], cs, k, h => ⟨Nat.zero_le _, cs, rfl, h⟩
 | y :: v, [], k, h => by cases h
 | y :: v, x :: cs, k, h => by
   change overK v cs (fun r => k (y :: r)) = some L at h
   obtain ⟨h1, r, h2, h3⟩ := bg2 h
   refine ⟨by simpa using h1, y :: r, ?_, h3⟩
   simp only [List.map_cons, putAt, List.set_cons_zero, Nat.zero_add]
   rw [at8 y.v (v.map W.v) (cs.map W.v) 0, h2]
theorem ah9 {L : Out} : ∀ {off : Nat} {v cs : List W} {k : List W → Ans}, putK off v cs k = some L → off + v.length ≤ cs.length ∧ ∃ r : List W, r.map W.v = putAt (cs.map W.v) off (v.map W.v) ∧ k r = some L
 | 0, v, cs, k, h => by obtain ⟨h1, h2⟩ := bg2 (show overK v cs k = some L from h); exact ⟨by omega, h2⟩
 | off + 1, v, [], k, h => by cases h
 | off + 1, v, x :: cs, k, h => by
   change putK off v cs (fun r => k (x :: r)) = some L at h
   obtain ⟨h1, r, h2, h3⟩ := ah9 h
   refine ⟨by simp; omega, x :: r, ?_, h3⟩
   simp only [List.map_cons]
   rw [at8, h2]
noncomputable def appK {α : Type} (l m : List α) (k : List α → Ans) : Ans := List.rec (motive := fun _ => (List α → Ans) → Ans) (fun k => k m) (fun x _ ih k => ih fun r => k (x :: r)) l k
theorem av3 {α : Type} : ∀ (l m : List α) (k : List α → Ans), appK l m k = k (l ++ m)
 | [], m, k => rfl
 | x :: l, m, k => av3 l m fun r => k (x :: r)
noncomputable def af2 (s : S) (k : List W → Ans) : Ans := S.rec (motive := fun _ => Ans) (fun w => W.rec (motive := fun _ => Ans) (fun x => k [.b x]) (fun kd n => k [.i kd n]) (fun l n => k [.s l n]) (fun a o => k [.p a o]) (fun a off wd len cp => k [.sl a off wd len cp]) (k [.ns]) (k [.np]) (fun a => k [.m a]) (fun x => ifB x.one (k [.z x]) none) w) (fun cs => k cs) (fun _ => none) s
theorem ag5 {s : S} {k : List W → Ans} {L : Out} (h : af2 s k = some L) : ∃ l : List W, stored s.v = some (l.map W.v) ∧ k l = some L := by
 rcases s with w | cs | xs
 ·cases w <;> first | exact ⟨_, rfl, h⟩ | skip
  rename_i x
  rcases p8 (show ifB x.one (k [.z x]) none = some L from h) with ⟨h1, h2⟩ | ⟨_, h2⟩
  ·refine ⟨[.z x], ?_, h2⟩
   show stored x = some [x]
   cases x <;> first | rfl | (simp [V.one] at h1)
  ·cases h2
 ·exact ⟨cs, rfl, h⟩
 ·cases h
def u0 : Nat → V := fun _ => .und
def h0 : Hp := fun _ => .no
noncomputable def w1 (C : AO → AX) (x : AO) (e : Vn) (t : T) (k : S → Ans) : Ans := wO x e fun a => vS a fun a => ob (evX u0 h0 (C (.k a))) fun r => sV r k
noncomputable def w2 (C : AO → AO → AX) (x y : AO) (e : Vn) (t : T) (k : S → Ans) : Ans := wO x e fun a => wO y e fun b => vS a fun a => vS b fun b => ob (evX u0 h0 (C (.k a) (.k b))) fun r => sV r k
noncomputable def cO (o : RO) (k : Bool → List W → Ans) : Ans := RO.rec (motive := fun _ => Ans) none none (fun gr cs => k gr cs) (fun _ _ => none) (fun _ _ _ _ _ _ => none) o
noncomputable def ldK (n : Nat) (agg : Bool) (t : T) (s : S) (k : S → Ans) : Ans := sP s fun a off => gT t a fun o => cO o fun _ cs => cutA off n agg cs k
noncomputable def wLd (x : AO) (n : Nat) (agg : Bool) (e : Vn) (t : T) (k : S → Ans) : Ans := wO x e fun s => ldK n agg t s k
noncomputable def wPick (c a b : AO) (e : Vn) (t : T) (k : S → Ans) : Ans := wO c e fun c => sB c (wO a e k) (wO b e k)
noncomputable def wFad (x : AO) (off : Nat) (e : Vn) (t : T) (k : S → Ans) : Ans := wO x e fun s => sP s fun a o => fNa (o + off) fun o => k (.w (.p a o))
noncomputable def natK (n : Int) (k : Nat → Ans) : Ans := Int.rec (motive := fun _ => Ans) (fun m => k m) (fun _ => none) n
noncomputable def wIad (x i : AO) (wd : Nat) (e : Vn) (t : T) (k : S → Ans) : Ans := wO x e fun s => wO i e fun j => sSl s fun a off _ len _ => sI j fun _ n => natK n fun m => ifB (Nat.blt m len) (fNa (off + m * wd) fun o => k (.w (.p a o))) none
noncomputable def cmpI (op : BinO) (n m : Int) (F : Ans) (k : Bool → Ans) : Ans := Int.rec (motive := fun _ => Ans) (fun a => Int.rec (motive := fun _ => Ans)
  (fun b => BinO.rec (motive := fun _ => Ans) F F F F F F F F (fBo (Nat.beq a b) k) (fBo (Nat.beq a b) fun x => k (!x)) (fBo (Nat.blt a b) k) (fBo (Nat.ble a b) k) (fBo (Nat.blt b a) k) (fBo (Nat.ble b a) k) op) (fun _ => F) m) (fun _ => F) n
noncomputable def cmpS (op : BinO) (l n l' n' : Nat) (F : Ans) (k : Bool → Ans) : Ans := BinO.rec (motive := fun _ => Ans) F F F F F F F F
 (Bool.rec (motive := fun _ => Ans) (k false) (fBo (Nat.beq n n') k) (Nat.beq l l')) (Bool.rec (motive := fun _ => Ans) (k true) (fBo (Nat.beq n n') fun x => k (!x)) (Nat.beq l l')) F F F F op
noncomputable def binF (op : BinO) (a b : S) (k : S → Ans) : Ans := vS a fun a => vS b fun b => ob (aq5 op a b) fun r => sV r k
noncomputable def wBin (op : BinO) (x y : AO) (e : Vn) (t : T) (k : S → Ans) : Ans := wO x e fun a => wO y e fun b => S.rec (motive := fun _ => Ans) (fun w => S.rec (motive := fun _ => Ans) (fun w' =>
 W.rec (motive := fun _ => Ans) (fun _ => none) (fun kd n => W.rec (motive := fun _ => Ans) (fun _ => none) (fun kd' m => be8 (kd = kd') (cmpI op n m (binF op a b k) fun r => k (.w (.b r)))) (fun _ _ => none) (fun _ _ => none) (fun _ _ _ _ _ => none) none none (fun _ => none) (fun _ => none) w')
  (fun l n => W.rec (motive := fun _ => Ans) (fun _ => none) (fun _ _ => none) (fun l' n' => cmpS op l n l' n' (binF op a b k) fun r => k (.w (.b r))) (fun _ _ => none) (fun _ _ _ _ _ => none) none none (fun _ => none) (fun _ => none) w')
  (fun _ _ => none) (fun _ _ _ _ _ => none) none none (fun _ => none) (fun _ => none) w) (fun _ => none) (fun _ => none) b) (fun _ => none) (fun _ => none) a
noncomputable def wNot (x : AO) (e : Vn) (t : T) (k : S → Ans) : Ans := wO x e fun s => sB s (k (.w (.b false))) (k (.w (.b true)))
noncomputable def wLen (str : Bool) (x : AO) (e : Vn) (t : T) (k : S → Ans) : Ans := wO x e fun s => S.rec (motive := fun _ => Ans) (fun w => W.rec (motive := fun _ => Ans) (fun _ => none) (fun _ _ => none) (fun l _ => ifB str (k (.w (.i .i64 (.ofNat l)))) none) (fun _ _ => none)
 (fun _ _ _ len _ => ifB str none (k (.w (.i .i64 (.ofNat len))))) (ifB str none (k (.w (.i .i64 (.ofNat 0))))) none (fun _ => none) (fun _ => none) w) (fun _ => none) (fun _ => none) s
noncomputable def wFld (x : AO) (off n : Nat) (agg : Bool) (e : Vn) (t : T) (k : S → Ans) : Ans := wO x e fun s => sAg s fun cs => cutA off n agg cs k
noncomputable def wBld (parts : List (Nat × Nat × AO)) : List W → Vn → (List W → Ans) → Ans :=
 List.rec (motive := fun _ => List W → Vn → (List W → Ans) → Ans) (fun cs _ k => k cs)
  (fun p _ ih cs e k => Prod.rec (motive := fun _ => Ans) (fun off q => Prod.rec (motive := fun _ => Ans) (fun size x => wO x e fun v => af2 v fun l => eqNK l.length size (putK off l cs fun cs => ih cs e k)) q) p) parts
noncomputable def wBldX (zero : List V) (parts : List (Nat × Nat × AO)) (e : Vn) (t : T) (k : S → Ans) : Ans := wVs zero fun cs => wBld parts cs e fun l => k (.ag l)
noncomputable def wSsl (x : AO) (lo hi mx : Option AO) (wd : Nat) (e : Vn) (t : T) (k : S → Ans) : Ans := wO x e fun v => vS v fun v => wOo lo e fun l => wOo hi e fun h => wOo mx e fun m => ob (evX u0 h0 (.ssl (.k v) l h m wd)) fun r => sV r k
noncomputable def wStr (x : AO) (lo hi : Option AO) (e : Vn) (t : T) (k : S → Ans) : Ans := wO x e fun v => vS v fun v => wOo lo e fun l => wOo hi e fun h => ob (evX u0 h0 (.str (.k v) l h)) fun r => sV r k
noncomputable def wMkf (f : FuncId) (fst caps : List AO) (e : Vn) (t : T) (k : S → Ans) : Ans := wOs fst e fun a => wOs caps e fun b => vSs a fun a => vSs b fun b => k (.w (.z (.fn f a b)))
noncomputable def wMki (ty : TypeId) (x : AO) (e : Vn) (t : T) (k : S → Ans) : Ans := wO x e fun s => vS s fun v => k (.w (.z (.ifc ty v)))
noncomputable def wExt (x : AO) (i : Nat) (e : Vn) (t : T) (k : S → Ans) : Ans := wO x e fun s => sTu s fun xs => atK i xs fun a => A.rec (motive := fun _ => Ans) (fun w => k (.w w)) (fun cs => k (.ag cs)) a
noncomputable def mpK (t : T) (v : V) (k : O → Ans) : Ans := match v with
 | .m a => gT t a fun o => k o.o
 | _ => k .no
noncomputable def wLkp (m key : AO) (kt : KT) (zero : List V) (agg ok : Bool) (e : Vn) (t : T) (k : S → Ans) : Ans := wO m e fun v => wO key e fun q => vS v fun v => vS q fun q => mpK t v fun o => ob (evX u0 (fun _ => o) (.lkp (.k v) (.k q) kt zero agg ok)) fun r => sV r k
noncomputable def slK (t : T) (v : V) (k : O → Ans) : Ans := match v with
 | .sl a _ _ _ _ => gT t a fun o => k o.o
 | _ => k .no
noncomputable def wSsx (x lo hi : AO) (wd : Nat) (e : Vn) (t : T) (k : S → Ans) : Ans := wO x e fun v => wO lo e fun l => wO hi e fun q => vS v fun v => vS l fun l => vS q fun q => slK t v fun o => ob (ssxV (fun _ => o) wd v l q) fun r => sV r k
noncomputable def wX (x : AX) : Vn → T → (S → Ans) → Ans :=
 AX.rec (motive := fun _ => Vn → T → (S → Ans) → Ans) (fun x e t k => wO x e k) wPick wLd wFad wIad wBin (fun ng => w2 (.beq ng)) (fun kind ng => w1 (.nleq kind ng)) (fun ks ng => w2 (.seq ks ng))
  wNot (w1 .neg) (w1 .cpl) (w2 .shl) (w2 .shr) wLen (w1 .cap) (w2 .mn) (w2 .mx) wFld wBldX (w2 .six) wSsl wStr (fun k => w1 (.cnv k)) (w1 .cvs) wMkf wMki (w1 .nck) (fun x i len n agg => w2 (fun a b => .aix a b len n agg) x i) (fun t => w1 (.tas t)) wExt wLkp (fun _ _ k => k (.w (.z .ni))) wSsx x
section
variable {e : Vn} {t : T} {L : Out}
theorem aq2 {o : RO} {kk : Bool → List W → Ans} (h : cO o kk = some L) : ∃ gr cs, o = .c gr cs ∧ kk gr cs = some L := by
 cases o <;> first | (cases h; done) | exact ⟨_, _, rfl, h⟩
theorem w1_spec {C : AO → AX} {x : AO} {k : S → Ans} (h : w1 C x e t k = some L) : ∃ s : S, evX u0 h0 (C (.k (evO e.sl x))) = some s.v ∧ k s = some L := by
 simp only [w1, z8, ao7, ad2] at h
 obtain ⟨r, h1, h2⟩ := u4 h
 obtain ⟨s, h3, h4⟩ := sV_v _ _ h2
 exact ⟨s, by rw [h1, h3], h4⟩
theorem w2_spec {C : AO → AO → AX} {x y : AO} {k : S → Ans} (h : w2 C x y e t k = some L) : ∃ s : S, evX u0 h0 (C (.k (evO e.sl x)) (.k (evO e.sl y))) = some s.v ∧ k s = some L := by
 simp only [w2, z8, ao7, ad2] at h
 obtain ⟨r, h1, h2⟩ := u4 h
 obtain ⟨s, h3, h4⟩ := sV_v _ _ h2
 exact ⟨s, by rw [h1, h3], h4⟩
theorem wBld_spec : ∀ {parts : List (Nat × Nat × AO)} {cs : List W} {e : Vn} {k : List W → Ans}, wBld parts cs e k = some L → ∃ r : List W, bldE e.sl (cs.map W.v) parts = some (r.map W.v) ∧ k r = some L
 | [], cs, e, k, h => ⟨cs, rfl, h⟩
 | (off, size, x) :: r, cs, e, k, h => by
   change wO x e (fun v => af2 v fun l => eqNK l.length size (putK off l cs fun cs => wBld r cs e k)) = some L at h
   rw [z8] at h
   obtain ⟨l, h1, h2⟩ := ag5 h
   rw [ad2] at h1
   obtain ⟨h3, h4⟩ := af8 h2
   obtain ⟨h5, cs', h6, h7⟩ := ah9 h4
   obtain ⟨r', h8, h9⟩ := wBld_spec h7
   refine ⟨r', ?_, h9⟩
   simp only [bldE, h1]
   rw [if_pos ⟨by simpa using h3, by simp; omega⟩, ← h6]; exact h8
theorem evO_k (sl : Nat → V) (v : V) : evO sl (.k v) = v := rfl
theorem ssl_k {sl : Nat → V} {h : Hp} {x : AO} {lo hi mx : Option AO} {wd : Nat} : evX u0 h0 (.ssl (.k (evO sl x)) (cOo sl lo) (cOo sl hi) (cOo sl mx) wd) = evX sl h (.ssl x lo hi mx wd) := by
 have hio : ∀ d a, evIo u0 d (cOo sl a) = evIo sl d a := fun d a => by cases a <;> rfl
 simp only [evX, hio, evO_k]
 generalize evO sl x = y
 generalize evIo sl 0 lo = z1
 cases mx with
 | none =>
   cases y <;> try rfl
   rename_i a off wd' len cp
   dsimp only [cOo]
   generalize evIo sl len hi = z2
   cases z1 <;> cases z2 <;> rfl
 | some m =>
   cases y <;> dsimp only [cOo]
   ·generalize evIo sl 0 hi = z2
    cases z1 <;> cases z2 <;> rfl
   ·rename_i a off wd' len cp
    generalize evIo sl len hi = z2
    cases z1 <;> cases z2 <;> rfl
   ·rename_i rows
    generalize evIo sl rows.length hi = z2
    cases z1 <;> cases z2 <;> rfl
theorem bool_eq {a b : Bool} (h : a = true ↔ b = true) : a = b := by cases a <;> cases b <;> simp_all
theorem cmpI_spec {op : BinO} {kd : IntKind} {n m : Int} {F : Ans} {k : Bool → Ans} (h : cmpI op n m F k = some L) : F = some L ∨ ∃ r, aq5 op (.i kd n) (.i kd m) = some (.b r) ∧ k r = some L := by
 cases n with
 | negSucc _ => exact .inl h
 | ofNat a =>
   cases m with
   | negSucc _ => exact .inl h
   | ofNat b =>
     have e1 : ∀ x y : Nat, Nat.beq x y = ((Int.ofNat x) == (Int.ofNat y)) := fun x y => bool_eq (by
      rw [beq_iff_eq]
      exact ⟨fun q => by rw [Nat.eq_of_beq_eq_true q], fun q => by injection q with q; rw [q]; exact Nat.beq_refl y⟩)
     have e2 : ∀ x y : Nat, Nat.ble x y = decide (Int.ofNat x ≤ Int.ofNat y) := fun x y => bool_eq (by
      rw [decide_eq_true_iff]
      exact ⟨fun q => by have := Nat.le_of_ble_eq_true q; exact Int.ofNat_le.2 this, fun q => Nat.ble_eq_true_of_le (Int.ofNat_le.1 q)⟩)
     have e3 : ∀ x y : Nat, Nat.blt x y = decide (Int.ofNat x < Int.ofNat y) := fun x y => bool_eq (by
      rw [decide_eq_true_iff]
      exact ⟨fun q => by have := bh9 q; exact Int.ofNat_lt.2 this, fun q => Nat.ble_eq_true_of_le (Int.ofNat_lt.1 q)⟩)
     cases op <;> first | exact .inl h | skip
     all_goals
      refine .inr ?_
      simp only [aq5, if_true]
     ·exact ⟨_, rfl, by rw [← e1]; rw [← av9 (Nat.beq a b) k]; exact h⟩
     ·exact ⟨_, rfl, by
       have : (Int.ofNat a != Int.ofNat b) = !(Nat.beq a b) := by rw [e1]; rfl
       rw [this]; rw [← av9 (Nat.beq a b) (fun x => k (!x))]; exact h⟩
     ·exact ⟨_, rfl, by rw [← e3]; rw [← av9 (Nat.blt a b) k]; exact h⟩
     ·exact ⟨_, rfl, by rw [← e2]; rw [← av9 (Nat.ble a b) k]; exact h⟩
     ·refine ⟨_, rfl, ?_⟩
      have : decide (Int.ofNat a > Int.ofNat b) = Nat.blt b a := (e3 b a).symm
      rw [this]; rw [← av9 (Nat.blt b a) k]; exact h
     ·refine ⟨_, rfl, ?_⟩
      have : decide (Int.ofNat a ≥ Int.ofNat b) = Nat.ble b a := (e2 b a).symm
      rw [this]; rw [← av9 (Nat.ble b a) k]; exact h
theorem cmpS_spec {op : BinO} {l n l' n' : Nat} {F : Ans} {k : Bool → Ans} (h : cmpS op l n l' n' F k = some L) : F = some L ∨ ∃ r, aq5 op (.s l n) (.s l' n') = some (.b r) ∧ k r = some L := by
 have e1 : ∀ x y : Nat, Nat.beq x y = (x == y) := fun x y => bool_eq (by
  rw [beq_iff_eq]
  exact ⟨fun q => Nat.eq_of_beq_eq_true q, fun q => by rw [q]; exact Nat.beq_refl y⟩)
 cases op <;> first | exact .inl h | skip
 all_goals
  refine .inr ?_
  simp only [aq5]
  refine ⟨_, rfl, ?_⟩
  rw [← e1 l l', ← e1 n n']
  cases hl : Nat.beq l l' <;> simp only [cmpS, hl, av9] at h <;> simpa using h
theorem wX_spec (x : AX) {k : S → Ans} (h : wX x e t k = some L) : ∃ s : S, evX e.sl t.h x = some s.v ∧ k s = some L := by
 cases x
 case mov x =>
  change wO x e k = some L at h
  rw [z8] at h
  exact ⟨_, congrArg some (ad2 x e).symm, h⟩
 case pick c a b =>
  change wPick c a b e t k = some L at h
  simp only [wPick, z8] at h
  rcases sB_spec h with ⟨h1, h2⟩ | ⟨h1, h2⟩
  ·exact ⟨_, by simp only [evX, ← ad2, h1]; rfl, h2⟩
  ·exact ⟨_, by simp only [evX, ← ad2, h1]; rfl, h2⟩
 case ld x n agg =>
  change wLd x n agg e t k = some L at h
  simp only [wLd, ldK, z8, ak2] at h
  obtain ⟨a, off, h1, h2⟩ := sP_spec h
  obtain ⟨gr, cs, h3, h4⟩ := aq2 h2
  obtain ⟨s, h5, h6, h7⟩ := bc8 h4
  refine ⟨s, ?_, h7⟩
  have h8 : t.h a = .c gr (cs.map W.v) := by show (t.fn a).o = _; rw [h3]; rfl
  simp only [evX, ← ad2, h1, h8]
  rw [if_pos (by simpa using h5)]; exact h6
 case fad x off =>
  change wFad x off e t k = some L at h
  simp only [wFad, z8, ac9] at h
  obtain ⟨a, o, h1, h2⟩ := sP_spec h
  exact ⟨_, by simp only [evX, ← ad2, h1]; rfl, h2⟩
 case iad x i wd =>
  change wIad x i wd e t k = some L at h
  simp only [wIad, z8, ac9] at h
  obtain ⟨a, off, w', len, cp, h1, h2⟩ := ax0 h
  obtain ⟨kd, n, h3, h4⟩ := az5 h2
  cases n with
  | negSucc _ => cases h4
  | ofNat m =>
    rcases p8 (show ifB (Nat.blt m len) _ none = some L from h4) with ⟨h5, h6⟩ | ⟨_, h6⟩
    ·refine ⟨_, ?_, h6⟩
     simp only [evX, ← ad2, h1, h3]
     rw [if_pos ⟨Int.natCast_nonneg m, Int.ofNat_lt.2 (bh9 h5)⟩]; rfl
    ·cases h6
 case bin op x y =>
  change wBin op x y e t k = some L at h
  simp only [wBin, z8] at h
  have hx := ad2 x e
  have hy := ad2 y e
  generalize wOv x e = a at h hx
  generalize wOv y e = b at h hy
  have fall : binF op a b k = some L → ∃ s : S, evX e.sl t.h (.bin op x y) = some s.v ∧ k s = some L := by
   intro h
   simp only [binF, ao7] at h
   obtain ⟨r, h1, h2⟩ := u4 h
   obtain ⟨s, h3, h4⟩ := sV_v _ _ h2
   exact ⟨s, by simp only [evX, ← hx, ← hy]; rw [h1, h3], h4⟩
  rcases a with w | _ | _ <;> rcases b with w' | _ | _ <;> first | (cases h; done) | skip
  cases w <;> cases w' <;> first | (cases h; done) | skip
  ·rename_i kd n kd' m
   obtain ⟨rfl, h2⟩ := ai7 (show be8 (kd = kd') _ = some L from h)
   rcases cmpI_spec (kd := kd) h2 with h3 | ⟨r, h3, h4⟩
   ·exact fall h3
   ·exact ⟨_, by simp only [evX, ← hx, ← hy]; exact h3, h4⟩
  ·rename_i l n l' n'
   rcases cmpS_spec (show cmpS op l n l' n' _ _ = some L from h) with h3 | ⟨r, h3, h4⟩
   ·exact fall h3
   ·exact ⟨_, by simp only [evX, ← hx, ← hy]; exact h3, h4⟩
 case not x =>
  change wNot x e t k = some L at h
  simp only [wNot, z8] at h
  rcases sB_spec h with ⟨h1, h2⟩ | ⟨h1, h2⟩
  ·exact ⟨_, by simp only [evX, ← ad2, h1]; rfl, h2⟩
  ·exact ⟨_, by simp only [evX, ← ad2, h1]; rfl, h2⟩
 case len str x =>
  change wLen str x e t k = some L at h
  simp only [wLen, z8] at h
  have hx := ad2 x e
  generalize wOv x e = a at h hx
  rcases a with w | _ | _ <;> first | (cases h; done) | skip
  cases w <;> first | (cases h; done) | skip
  all_goals
   cases str <;> first | (cases h; done) | exact ⟨_, by simp only [evX, ← hx]; rfl, h⟩
 case fld x off n agg =>
  change wFld x off n agg e t k = some L at h
  simp only [wFld, z8] at h
  obtain ⟨cs, h1, h2⟩ := sAg_spec h
  obtain ⟨s, h5, h6, h7⟩ := bc8 h2
  refine ⟨s, ?_, h7⟩
  have h8 : evO e.sl x = .ag (cs.map W.v) := by rw [← ad2, h1]; rfl
  simp only [evX, h8]
  rw [if_pos (by simpa using h5)]; exact h6
 case bld zero parts =>
  change wBldX zero parts e t k = some L at h
  simp only [wBldX, av5] at h
  obtain ⟨r, h1, h2⟩ := wBld_spec h
  rw [W.map_of] at h1
  exact ⟨_, by simp only [evX, h1]; rfl, h2⟩
 case ssl x lo hi mx wd =>
  change wSsl x lo hi mx wd e t k = some L at h
  simp only [wSsl, z8, wOo_eq, ao7, ad2] at h
  rw [ssl_k (h := t.h)] at h
  obtain ⟨r, h1, h2⟩ := u4 h
  obtain ⟨s, h3, h4⟩ := sV_v _ _ h2
  exact ⟨s, by rw [h1, h3], h4⟩
 case str x lo hi =>
  change wStr x lo hi e t k = some L at h
  simp only [wStr, z8, wOo_eq, ao7, ad2] at h
  obtain ⟨r, h1, h2⟩ := u4 h
  obtain ⟨s, h3, h4⟩ := sV_v _ _ h2
  refine ⟨s, ?_, h4⟩
  rw [h3, ← h1]
  cases lo <;> cases hi <;> rfl
 case mkf f fst caps =>
  change wMkf f fst caps e t k = some L at h
  simp only [wMkf, bf1, vSs_eq, ay3] at h
  exact ⟨_, rfl, h⟩
 case mki ty x =>
  change wMki ty x e t k = some L at h
  simp only [wMki, z8, ao7, ad2] at h
  exact ⟨_, rfl, h⟩
 case ext x i =>
  change wExt x i e t k = some L at h
  simp only [wExt, z8] at h
  obtain ⟨xs, h1, h2⟩ := sTu_spec h
  obtain ⟨a, h3, h4⟩ := atK_spec h2
  have h8 : evO e.sl x = .tu (xs.map A.v) := by rw [← ad2, h1]; rfl
  have h9 : (xs.map A.v)[i]? = some a.v := by rw [List.getElem?_map, h3]; rfl
  cases a with
  | w w => exact ⟨.w w, by simp only [evX, h8]; exact h9, h4⟩
  | ag cs => exact ⟨.ag cs, by simp only [evX, h8]; exact h9, h4⟩
 case lkp m key kt zero agg ok =>
  change wLkp m key kt zero agg ok e t k = some L at h
  simp only [wLkp, z8, ao7, ad2] at h
  have key2 : ∀ (v : V) (kk : O → Ans), mpK t v kk = some L → ∃ o, kk o = some L ∧ ∀ a, v = .m a → o = t.h a := by
   intro v kk h
   unfold mpK at h
   split at h
   ·rename_i a
    rw [ak2] at h
    exact ⟨_, h, fun a' e => by cases e; rfl⟩
   ·rename_i hne
    exact ⟨_, h, fun a' e => (hne a' e).elim⟩
  obtain ⟨o, h1, h2⟩ := key2 _ _ h
  obtain ⟨r, h3, h4⟩ := u4 h1
  obtain ⟨s, h5, h6⟩ := sV_v _ _ h4
  refine ⟨s, ?_, h6⟩
  rw [h5, ← h3]
  simp only [evX, evO_k]
  generalize evO e.sl m = v at h2
  cases v <;> first | (simp only [lkpV]; done) | (simp only [lkpV, h2 _ rfl]; done)
 case rcv => exact ⟨_, rfl, h⟩
 case ssx x lo hi wd =>
  change wSsx x lo hi wd e t k = some L at h
  simp only [wSsx, z8, ao7, ad2] at h
  have key2 : ∀ (v : V) (kk : O → Ans), slK t v kk = some L → ∃ o, kk o = some L ∧ ∀ a off wd len cp, v = .sl a off wd len cp → o = t.h a := by
   intro v kk h
   unfold slK at h
   split at h
   ·rename_i a off wd len cp
    rw [ak2] at h
    exact ⟨_, h, fun a' off' wd' len' cp' e => by cases e; rfl⟩
   ·rename_i hne
    exact ⟨_, h, fun a' off' wd' len' cp' e => (hne a' off' wd' len' cp' e).elim⟩
  obtain ⟨o, h1, h2⟩ := key2 _ _ h
  obtain ⟨r, h3, h4⟩ := u4 h1
  obtain ⟨s, h5, h6⟩ := sV_v _ _ h4
  refine ⟨s, ?_, h6⟩
  rw [h5, ← h3]
  simp only [evX]
  generalize evO e.sl x = v at h2
  generalize vI_lo : vI (evO e.sl lo) = l
  generalize vI_hi : vI (evO e.sl hi) = q
  cases v with
  | sl a off wd' len cp =>
    have e' := h2 _ _ _ _ _ rfl
    subst e'
    unfold ssxV
    rw [vI_lo, vI_hi]
    cases cp <;> cases l <;> cases q <;> rfl
  | _ => simp only [ssxV]
 case aix x i len n agg => exact w2_spec (C := fun a b => .aix a b len n agg) (t := t) h
 all_goals first
  | exact w1_spec (t := t) h
  | exact w2_spec (t := t) h
end
end Go.B
