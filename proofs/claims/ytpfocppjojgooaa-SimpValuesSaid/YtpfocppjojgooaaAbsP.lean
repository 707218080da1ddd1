/-
  Codes: the abstract weakest precondition, the check of a code against its translation, soundness. Program-independent.
-/
import Derived.Test.YtpfocppjojgooaaAbsS
set_option linter.unusedSimpArgs false
set_option linter.unusedVariables false
namespace Go.Abs

def mskL : List Bool → List SV → List SV
  | [], xs => xs
  | _, [] => []
  | b :: bs, x :: xs => (if b then x else und) :: mskL bs xs
def St.msk (st : St) (m : List Bool) : St := { st with sl := mskL m st.sl }

def thenA (next : St → Prop) (Q : Exit → St → Prop) : Exit → St → Prop
  | .normal, st => next st
  | e, st => Q e st
def blockA (id : Nat) (Q : Exit → St → Prop) : Exit → St → Prop
  | .exit id', st => if id' = id then Q .normal st else Q (.exit id') st
  | e, st => Q e st

def awp (P : Program) : ACode → (Exit → St → Prop) → St → Prop
  | .skip, Q, st => Q .normal st
  | .reg ops, Q, st => rwp P ops (Q .normal) st
  | .drw ops, Q, st => rwp P ops (Q .normal) st
  | .seq a b, Q, st => awp P a (thenA (awp P b Q) Q) st
  | .cond c a b, Q, st => ∃ x, evO st c = some (.c (.t (.b x))) ∧ if x = true then awp P a Q st else awp P b Q st
  | .block id a, Q, st => awp P a (blockA id Q) st
  | .loop m a, Q, st => ∀ X : St → Prop, (∀ s, awp P a (thenA X Q) (s.msk m) → X s) → X st
  | .exit id, Q, st => Q (.exit id) st
  | .ret, Q, st => Q .ret st
  | .bad, _, _ => False

def chkC (P : Program) : Code → ACode → Bool
  | .skip, .skip => true
  | .label _, .skip => true
  | .region _ ops false, .reg gs => chkOps P ops [] ops.toList gs
  | .region _ ops true, .drw gs => chkD P ops gs
  | .seq a b, .seq a' b' => chkC P a a' && chkC P b b'
  | .cond c a b, .cond c' a' b' => opd c c' && chkC P a a' && chkC P b b'
  | .block id a, .block id' a' => id == id' && chkC P a a'
  | .loop a, .loop _ a' => chkC P a a'
  | .exit id, .exit id' => id == id'
  | .ret, .ret => true
  | _, .bad => true
  | _, _ => false

theorem awp_mono {P : Program} : ∀ {c : ACode} {Q Q' : Exit → St → Prop} (hq : ∀ e s, Q e s → Q' e s) {st : St}, awp P c Q st → awp P c Q' st
  | .skip, Q, Q', hq, st, h => hq _ _ h
  | .reg ops, Q, Q', hq, st, h => rwp_mono (hq _) h
  | .drw ops, Q, Q', hq, st, h => rwp_mono (hq _) h
  | .seq a b, Q, Q', hq, st, h => by
    refine awp_mono (c := a) (fun e s hs => ?_) h
    cases e <;> first | exact awp_mono (c := b) hq hs | exact hq _ _ hs
  | .cond c a b, Q, Q', hq, st, h => by
    obtain ⟨x, h1, h2⟩ := h
    refine ⟨x, h1, ?_⟩
    split
    · rename_i e; rw [if_pos e] at h2; exact awp_mono hq h2
    · rename_i e; rw [if_neg e] at h2; exact awp_mono hq h2
  | .block id a, Q, Q', hq, st, h => by
    refine awp_mono (c := a) (fun e s hs => ?_) h
    cases e <;> first
      | exact hq _ _ hs
      | (simp only [blockA] at hs ⊢
         split
         · rename_i e; rw [if_pos e] at hs; exact hq _ _ hs
         · rename_i e; rw [if_neg e] at hs; exact hq _ _ hs)
  | .loop m a, Q, Q', hq, st, h => by
    intro X hX
    refine h X (fun s hs => hX s (awp_mono (c := a) (fun e s hs => ?_) hs))
    cases e <;> first | exact hs | exact hq _ _ hs
  | .exit id, Q, Q', hq, st, h => hq _ _ h
  | .ret, Q, Q', hq, st, h => hq _ _ h
  | .bad, Q, Q', hq, st, h => h.elim

/-- one more round of a loop -/
theorem awp_loop {P : Program} {m : List Bool} {a : ACode} {Q : Exit → St → Prop} {st : St} (h : awp P a (thenA (awp P (.loop m a) Q) Q) (st.msk m)) : awp P (.loop m a) Q st := by
  intro X hX
  refine hX st (awp_mono (fun e s hs => ?_) h)
  cases e <;> first | exact hs X hX | exact hs

section
variable {P : Program} {w0 : World} {g0 : Gh}

def Lift (w0 : World) (g0 : Gh) (Q : Exit → St → Prop) : Exit → Act → World → Prop :=
  fun e a w => a.defers = [] ∧ ∃ st g, StR w g a.tmps st ∧ Stp w0 g0 w g NE ∧ Q e st

theorem mskL_get : ∀ (m : List Bool) (xs : List SV) (n : Nat) (y : SV), (mskL m xs)[n]? = some y → y = und ∨ xs[n]? = some y
  | [], xs, n, y, h => .inr h
  | _ :: _, [], n, y, h => by simp [mskL] at h
  | b :: bs, x :: xs, n, y, h => by
    cases n with
    | zero =>
      simp only [mskL, List.getElem?_cons_zero, Option.some.injEq] at h
      cases b
      · exact .inl (by simpa using h.symm)
      · exact .inr (by simpa using h)
    | succ n =>
      simp only [mskL, List.getElem?_cons_succ] at h ⊢
      exact mskL_get bs xs n y h
theorem mskL_len : ∀ (m : List Bool) (xs : List SV), (mskL m xs).length = xs.length
  | [], xs => rfl
  | _ :: _, [] => rfl
  | b :: bs, x :: xs => by simp [mskL, mskL_len bs xs]

theorem StR.msk {w : World} {g : Gh} {tmps : Array Value} {st : St} (h : StR w g tmps st) (m : List Bool) : StR w g tmps (st.msk m) := by
  refine ⟨by simp only [St.msk, mskL_len]; exact h.len, fun s x v e1 e2 => ?_, h.hp, h.fz, h.om, h.n⟩
  rcases mskL_get m st.sl s x e1 with rfl | e1
  · exact SVR.und _ _ _ _
  · exact h.sl s x v e1 e2

/-- behind a round of a loop -/
def LWp (P : Program) (c : Code) (Q : Exit → Act → World → Prop) (a : Act) (w : World) : Prop :=
  ∀ (b : Frame) (k : List Item) (cs : List Frame), ∃ e a' w', Q e a' w' ∧ Arrives P (lone (b.at a (.inLoop c :: k)) cs w) b k cs e a' w'

theorem loop_round {c : Code} {Q : Exit → Act → World → Prop} {a : Act} {w : World} (h : c.wp P (Exit.then (LWp P c Q) Q) a w) (b : Frame) (k : List Item) (cs : List Frame) :
    ∃ e a' w', Q e a' w' ∧ Arrives P (lone (b.at a (.code c :: .inLoop c :: k)) cs w) b k cs e a' w' := by
  obtain ⟨e, a₁, w₁, hq, harr⟩ := h b (.inLoop c :: k) cs
  cases e with
  | normal =>
    obtain ⟨e₂, a₂, w₂, hq₂, harr₂⟩ := hq b k cs
    exact ⟨e₂, a₂, w₂, hq₂, .of_steps harr harr₂⟩
  | exit id => exact ⟨_, a₁, w₁, hq, .pass (x := .inLoop c) rfl (fun _ _ => .inl (by simp)) harr⟩
  | goto l => exact ⟨_, a₁, w₁, hq, .pass (x := .inLoop c) rfl (fun _ _ => .inl (by simp)) harr⟩
  | ret => exact ⟨_, a₁, w₁, hq, .pass (x := .inLoop c) rfl (fun _ _ => .inl (by simp)) harr⟩
  | panic ch => exact ⟨_, a₁, w₁, hq, .pass (x := .inLoop c) rfl (fun _ _ => .inl (by simp)) harr⟩
  | outgrown => exact ⟨_, a₁, w₁, hq, .pass (x := .inLoop c) rfl (fun _ _ => .inl (by simp)) harr⟩

theorem lwp_round {c : Code} {Q : Exit → Act → World → Prop} {a : Act} {w : World} (h : c.wp P (Exit.then (LWp P c Q) Q) a w) : LWp P c Q a w := by
  intro b k cs
  obtain ⟨e, a', w', hq, harr⟩ := loop_round h b k cs
  exact ⟨e, a', w', hq, .of_steps (.one step_inLoop) harr⟩

theorem wp_loop_round {c : Code} {Q : Exit → Act → World → Prop} {a : Act} {w : World} (h : c.wp P (Exit.then (LWp P c Q) Q) a w) : (Code.loop c).wp P Q a w := by
  intro b k cs
  obtain ⟨e, a', w', hq, harr⟩ := loop_round h b k cs
  exact ⟨e, a', w', hq, .of_steps (.one step_loop) harr⟩

theorem range_map (ops : Array Oper) : (List.range ops.size).map (fun i => ops[i]?) = ops.toList.map some := by
  apply List.ext_getElem?
  intro j
  by_cases hj : j < ops.size
  · simp [hj]
  · rw [List.getElem?_eq_none (by simpa using Nat.le_of_not_lt hj), List.getElem?_eq_none (by simpa using Nat.le_of_not_lt hj)]

theorem awp_sound : ∀ (ac : ACode) (c : Code) (Q : Exit → St → Prop) (a : Act) (w : World) (g : Gh) (st : St), chkC P c ac = true → a.defers = [] → StR w g a.tmps st → Stp w0 g0 w g NE →
    awp P ac Q st → c.wp P (Lift w0 g0 Q) a w := by
  intro ac
  induction ac with
  | skip =>
    intro c Q a w g st hc hd h s hq
    cases c <;> first | (simp [chkC] at hc; done) | exact wp_skip ⟨hd, st, g, h, s, hq⟩ | exact wp_label ⟨hd, st, g, h, s, hq⟩
  | reg gs =>
    intro c Q a w g st hc hd h s hq
    cases c with
    | region id ops draw =>
      cases draw with
      | true => simp [chkC] at hc
      | false =>
        simp only [chkC] at hc
        refine wp_region (rwp_sound (w0 := w0) (g0 := g0) (K := Q .normal) (fun a w g st h1 h2 h3 h4 => ⟨h1, st, g, h2, h3, h4⟩) ops.toList _ gs [] a w g st (range_map ops) hc (fun e he => by cases he) hd h s hq)
    | _ => simp [chkC] at hc
  | drw gs =>
    intro c Q a w g st hc hd h s hq
    cases c with
    | region id ops draw =>
      cases draw with
      | false => simp [chkC] at hc
      | true =>
        simp only [chkC] at hc
        exact drw_sound (w0 := w0) (g0 := g0) (K := Q .normal) (fun a w g st h1 h2 h3 h4 => ⟨h1, st, g, h2, h3, h4⟩) hc hd h s hq
    | _ => simp [chkC] at hc
  | seq x y ihx ihy =>
    intro c Q a w g st hc hd h s hq
    cases c with
    | seq cx cy =>
      simp only [chkC, Bool.and_eq_true] at hc
      refine wp_seq (wp_mono (ihx cx _ a w g st hc.1 hd h s hq) (fun e a' w' hl => ?_))
      obtain ⟨hd', st', g', h', s', hq'⟩ := hl
      cases e <;> first
        | exact ihy cy Q a' w' g' st' hc.2 hd' h' s' hq'
        | exact ⟨hd', st', g', h', s', hq'⟩
    | _ => simp [chkC] at hc
  | cond k x y ihx ihy =>
    intro c Q a w g st hc hd h s hq
    cases c with
    | cond kc cx cy =>
      simp only [chkC, Bool.and_eq_true] at hc
      obtain ⟨⟨c1, c2⟩, c3⟩ := hc
      obtain ⟨b, hb, hq⟩ := hq
      obtain ⟨tmps, ds⟩ := a
      have hev := evr_b (opd_sound (ds := ds) h c1 hb [])
      refine wp_cond_split hev (fun e => ?_) (fun e => ?_)
      · subst e; rw [if_pos rfl] at hq; exact ihx cx Q _ w g st c2 hd h s hq
      · subst e; rw [if_neg (by simp)] at hq; exact ihy cy Q _ w g st c3 hd h s hq
    | _ => simp [chkC] at hc
  | block id x ih =>
    intro c Q a w g st hc hd h s hq
    cases c with
    | block id' cx =>
      simp only [chkC, Bool.and_eq_true, beq_iff_eq] at hc
      obtain ⟨rfl, hc⟩ := hc
      refine wp_block (wp_mono (ih cx _ a w g st hc hd h s hq) (fun e a' w' hl => ?_))
      obtain ⟨hd', st', g', h', s', hq'⟩ := hl
      cases e with
      | exit i =>
        simp only [blockA] at hq'
        simp only [Exit.inBlock]
        split
        · rename_i e; rw [if_pos e] at hq'; exact ⟨hd', st', g', h', s', hq'⟩
        · rename_i e; rw [if_neg e] at hq'; exact ⟨hd', st', g', h', s', hq'⟩
      | _ => exact ⟨hd', st', g', h', s', hq'⟩
    | _ => simp [chkC] at hc
  | loop m x ih =>
    intro c Q a w g st hc hd h s hq
    cases c with
    | loop cx =>
      simp only [chkC] at hc
      have step : ∀ (X : St → Prop), (∀ st a w g, a.defers = [] → StR w g a.tmps st → Stp w0 g0 w g NE → X st → LWp P cx (Lift w0 g0 Q) a w) →
          ∀ st a w g, a.defers = [] → StR w g a.tmps st → Stp w0 g0 w g NE → awp P x (thenA X Q) (st.msk m) → cx.wp P (Exit.then (LWp P cx (Lift w0 g0 Q)) (Lift w0 g0 Q)) a w := by
        intro X hX st a w g hd h s hq
        refine wp_mono (ih cx _ a w g _ hc hd (h.msk m) s hq) (fun e a' w' hl => ?_)
        obtain ⟨hd', st', g', h', s', hq'⟩ := hl
        cases e <;> first
          | exact hX st' a' w' g' hd' h' s' hq'
          | exact ⟨hd', st', g', h', s', hq'⟩
      -- the abstract loop is run until it leaves
      let X : St → Prop := fun st => ∀ a w g, a.defers = [] → StR w g a.tmps st → Stp w0 g0 w g NE → LWp P cx (Lift w0 g0 Q) a w ∧ cx.wp P (Exit.then (LWp P cx (Lift w0 g0 Q)) (Lift w0 g0 Q)) a w
      have hx : X st := by
        refine hq X (fun s' hs' => ?_)
        intro a w g hd h s
        have hw := step X (fun st a w g h1 h2 h3 hX => (hX a w g h1 h2 h3).1) s' a w g hd h s hs'
        exact ⟨lwp_round hw, hw⟩
      exact wp_loop_round (hx a w g hd h s).2
    | _ => simp [chkC] at hc
  | exit id =>
    intro c Q a w g st hc hd h s hq
    cases c with
    | exit id' =>
      simp only [chkC, beq_iff_eq] at hc
      subst hc
      exact wp_exit ⟨hd, st, g, h, s, hq⟩
    | _ => simp [chkC] at hc
  | ret =>
    intro c Q a w g st hc hd h s hq
    cases c <;> first | (simp [chkC] at hc; done) | exact wp_ret ⟨hd, st, g, h, s, hq⟩
  | bad =>
    intro c Q a w g st hc hd h s hq
    exact hq.elim

end
end Go.Abs
