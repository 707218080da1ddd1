/-
  From a contract without addresses to the given form of a law: what is read is a tree; behind the call it reads as before. Program-independent.
-/
import Derived.Test.YtagogibgoknncaaGreatDoorBS
import Derived.ChangeSame
import Derived.JoinedOf
import Derived.JoinedAt
import Derived.RowKit
import Derived.RowKit2
import Derived.ReadAgain
import Derived.ChangeAlike
import Derived.ChangeReads
import Derived.ChangeOld
set_option linter.unusedSimpArgs false
set_option linter.unusedVariables false
set_option linter.unusedSectionVars false
namespace Go.B
variable [iok : OkC]
open Go.ChangeShapes Go.WideShapes Go.ChangeAt Go.RowKit
section
variable {H : Type} {enc : TypeId × Value → H} {P : Program} {W W' : World} {T : TypeId → Prop}
structure Kept (W W' : World) : Prop where
 size : W.heap.size ≤ W'.heap.size
 heap : ∀ c, c < W.heap.size → W'.heap[c]? = W.heap[c]?
 out : W'.output = W.output
 os : W'.os = W.os
theorem Kept.same (h : Kept W W') {p : MemPlace} (hp : p.block < W.heap.size) : W.sameAt W' p := by
 cases p with
 | cell b o => simp only [World.sameAt, World.cell?, h.heap b hp]
 | map b => exact h.heap b hp
theorem Kept.frozen (h : Kept W W') {b o : Nat} (hp : b < W.heap.size) : W'.frozen? ⟨b, o, none⟩ = W.frozen? ⟨b, o, none⟩ := by
 simp only [World.frozen?, h.heap b hp]
theorem Kept.but (h : Kept W W') (may : MemPlace → Prop) : W.keptBut W' may := by
 refine ⟨h.os, h.out, fun i hi => ?_⟩
 rw [h.heap i hi]
 cases W.heap[i]? with
 | none => rfl
 | some o => cases o <;> first | exact ⟨rfl, rfl, rfl, fun _ _ => rfl⟩ | exact .inr ⟨rfl, rfl⟩ | rfl
theorem trod_kept (h : Kept W W') {base : Nat} {sp : Nat → Bool} {held : Bool} : ∀ {ts : List TypeId} {vs : List Value} {ds : List (DataW H)} {ps : List MemPlace}, DataW.TrodAll enc P W base sp held ts vs ds ps → (∀ p ∈ ps, p.block < W.heap.size) → DataW.TrodAll enc P W' base sp held ts vs ds ps
 | [], [], [], _, h1, _ => h1
 | [], [], _ :: _, _, h1, _ => h1.elim
 | [], _ :: _, _, _, h1, _ => h1.elim
 | _ :: _, [], _, _, h1, _ => h1.elim
 | _ :: _, _ :: _, [], _, h1, _ => h1.elim
 | t :: ts, v :: vs, d :: ds, ps, ⟨p, q, ⟨n, h1⟩, h2, e⟩, hl => by
   refine ⟨p, q, ⟨n, DataW.trod_carry n _ _ _ h1 (fun x hx => h.same (hl x ?_))⟩, trod_kept h h2 (fun x hx => hl x ?_), e⟩
   ·rw [e]; exact List.mem_append_left _ hx
   ·rw [e]; exact List.mem_append_right _ hx
theorem post_kept {f : Func} {s : ChangeSpec} {apart fresh handsOn again : Bool} {args : Array Value} {v : Value} {ds gs : List (DataW H)} {before pa pv : List MemPlace}
  (hW : DataW.Whole enc P f.params.toList s.vars apart W args.toList ds gs before)
  (hres : ∀ (b : Nat) (sp : Nat → Bool) (hd : Bool), DataW.TrodAll enc P W' b sp hd f.resultTypes.toList (v.resultList f.resultTypes.size) (s.fn H (ds ++ gs)).results [])
  (hargs : ∀ sp : Nat → Bool, (∀ p ∈ before, sp p.block = true) → DataW.TrodAll enc P W' 0 sp true f.params.toList args.toList (s.fn H (ds ++ gs)).args pa)
  (hvars : ∀ sp : Nat → Bool, (∀ p ∈ before, sp p.block = true) → DataW.TrodVars enc P W' sp s.vars (s.fn H (ds ++ gs)).vars pv)
  (hps : before = pa ++ pv) (hk : W.keptBut W' (· ∈ before)) (hfz : ∀ b off, MemPlace.cell b off ∈ before → W'.frozen? ⟨b, off, none⟩ = W.frozen? ⟨b, off, none⟩)
  (hok : ∀ (j : Nat) (t : TypeId) (r : Value), f.resultTypes[j]? = some t → (v.resultList f.resultTypes.size)[j]? = some r → Value.okWide P W' .any 0 t r) :
  s.post enc P f apart fresh handsOn again W args v W' := by
 have hold : ∀ p ∈ before, (fun b => decide (b < W.heap.size)) p.block = true := fun p hp => by simpa using hW.lt p hp
 refine ⟨ds, gs, before, [], pa, pv, hW, hres _ _ _, hargs _ hold, hvars _ hold, World.keptBut_mono (fun p hp => ⟨hp, ?_⟩) hk, fun _ => ?_⟩
 ·rw [hps, List.mem_append] at hp
  exact Or.inr hp
 ·obtain ⟨_, _, _, _, _, hz, hn⟩ := hW
  refine ⟨hok, _, _, ([] ++ pa) ++ pv, ⟨[] ++ pa, pv, trodAll_append (hargs _ (fun _ _ => rfl)) (hres _ _ _), hvars _ (fun _ _ => rfl), rfl, ?_, ?_⟩, ?_⟩
  ·intro b off hp
   have hb : MemPlace.cell b off ∈ before := by rw [hps]; simpa using hp
   rw [hfz b off hb]
   exact hz b off hb
  ·intro ha
   have := hn ha
   rw [hps] at this
   simpa using this
  ·intro p hp _
   rw [hps]
   simpa using hp
theorem law_post {f : Func} {s : ChangeSpec} {apart fresh handsOn again : Bool} {args : Array Value} {ds gs : List (DataW H)} {before : List MemPlace} {tb : TypeId} (K : Kids P T)
  (hfull : ∀ t e, T t → P.underlying t = some (.slice e) → 0 < P.cellsOf e) (hT : ∀ t ∈ f.params.toList, T t) (hr : f.resultTypes = #[tb]) (htb : P.underlying tb = some .bool) (hsv : s.vars = [])
  (hW : DataW.Whole enc P f.params.toList s.vars apart W args.toList ds gs before) (hfr : (s.fn H (ds ++ gs)).results = [.lit (.bool true)]) (hfa : (s.fn H (ds ++ gs)).args = ds) (hfv : (s.fn H (ds ++ gs)).vars = []) (hk : Kept W W') :
  s.post enc P f apart fresh handsOn again W args (.bool true) W' := by
 have hlt := hW.lt
 have hW2 := hW
 obtain ⟨p, q, hA, hV, hb, _, _⟩ := hW2
 have hV' := hV
 rw [hsv] at hV'
 obtain ⟨rfl, rfl⟩ := trodVars_none hV'
 simp only [List.append_nil] at hb
 have hb' := hb.symm
 subst hb'
 refine post_kept (pa := p) (pv := []) hW (fun b sp hd => ?_) (fun sp hsp => ?_) (fun sp hsp => ?_) (by simp) (hk.but _) (fun b off hp => hk.frozen (hlt _ hp)) (ok_one hr rfl (okWide_bool_mk htb _))
 ·rw [hr, hfr]; exact trodAll_mk1 (shut_bool htb true)
 ·rw [hfa]
  exact trod_kept hk (DataW.TrodAll.respare K hfull hT hA hsp) hlt
 ·rw [hsv, hfv]; rfl
end
def gW (W : World) : G := { be := fun _ => 0, cz := fun _ => (0, 0), dom := fun _ => False, fz := fun c o => W.cell? ⟨c, o, none⟩ }
def RowR (W : World) (cs : List Value) (row : List V) : Prop := cs.length = row.length ∧ ∀ (j : Nat) (x : V) (v : Value), row[j]? = some x → cs[j]? = some v → VR (gW W) x v ∧ v.oneCell' = true
section
variable {P : Program} {W : World} {H : Type} {enc : TypeId × Value → H}
theorem law_calls {f : FuncId} {xs : List V} (hp : PC P f xs (.b true)) {args : Array Value} (hs : args.size = xs.length)
  (hv : ∀ (i : Nat) (x : V) (v : Value), xs[i]? = some x → args[i]? = some v → VR (gW W) x v) :
  Calls P f args W fun e W' => e = .returned (.bool true) ∧ Kept W W' := by
 refine (hp.2 W (gW W) args ⟨fun _ => trivial, fun a h => (by cases h), fun a b h => (by cases h), fun a h => h.elim, fun a h => h.elim, fun c o v h => ⟨h, fun a h => (by cases h)⟩⟩ ⟨hs, hv⟩).mono ?_
 rintro e W' ⟨h', nx', v, g', rfl, hr, hH, s, _⟩
 have hvb : v = .bool true := vr_b hr
 subst hvb
 exact ⟨rfl, ⟨s.size, fun c hc => s.keep c hc (fun a h => (by cases h)), s.out, s.os⟩⟩
theorem agg_of_cells {v : Value} {n : Nat} (h : v.cells.toList.length = n) (hn : n ≠ 1) : ∃ a, v = .agg a := by
 cases v <;> first | exact ⟨_, rfl⟩ | (simp [Value.cells] at h; omega)
theorem vr_agg {a : Array Value} {row : List V} (h : RowR W a.toList row) : VR (gW W) (.ag row) (.agg a) :=
 .ag row a (by simpa using h.1) (fun j v e => by
  have hj : j < row.length := by rw [← h.1]; simpa using (Array.getElem?_eq_some_iff.1 e).1
  exact (h.2 j row[j] v (by simp [hj]) (by simpa using e)).2) (fun j x v e1 e2 => (h.2 j x v e1 (by simpa using e2)).1)
theorem ae3 {α β : Type} {f : α → Option β} : ∀ {l : List α} {r : List β}, l.mapM f = some r → r.length = l.length
 | [], r, h => by simp at h; subst h; rfl
 | a :: l, r, h => by
   simp only [List.mapM_cons, Option.pure_def, Option.bind_eq_bind, Option.bind_eq_some_iff] at h
   obtain ⟨b, _, bs, h2, h3⟩ := h
   cases h3
   simp [ae3 h2]
theorem ar1 {α β : Type} {f : α → Option β} : ∀ {l : List α} {r : List β}, l.mapM f = some r → ∀ (j : Nat) (a : α), l[j]? = some a → f a = r[j]?
 | [], r, h, j, a, e => by simp at e
 | x :: l, r, h, j, a, e => by
   simp only [List.mapM_cons, Option.pure_def, Option.bind_eq_bind, Option.bind_eq_some_iff] at h
   obtain ⟨b, h1, bs, h2, h3⟩ := h
   cases h3
   cases j with
   | zero => simp at e; subst e; simpa using h1
   | succ j => simpa using ar1 h2 j a (by simpa using e)
theorem cells_get {base : Nat} {a : Addr} {n : Nat} {cs : List Value} (h : W.cells? base a n = some cs) : cs.length = n ∧ ∀ j, j < n → ∃ v, cs[j]? = some v ∧ W.cell? (a.add j) = some v := by
 unfold World.cells? at h
 split at h
 ·refine ⟨by simpa using ae3 h, fun j hj => ?_⟩
  have := ar1 h j j (by simp [hj])
  have hl : cs.length = n := by simpa using ae3 h
  refine ⟨cs[j]'(by omega), by simp [hl, hj], ?_⟩
  rw [this]; simp [hl, hj]
 ·cases h
theorem bd3 {α : Type} {p : Nat → α → Prop} : ∀ (n : Nat), (∀ i, i < n → ∃ x, p i x) → ∃ l : List α, l.length = n ∧ ∀ i x, l[i]? = some x → p i x
 | 0, _ => ⟨[], rfl, fun i x e => by simp at e⟩
 | n + 1, h => by
   obtain ⟨l, h1, h2⟩ := bd3 n (fun i hi => h i (by omega))
   obtain ⟨y, hy⟩ := h n (by omega)
   refine ⟨l ++ [y], by simp [h1], fun i x e => ?_⟩
   rcases Nat.lt_or_ge i l.length with hi | hi
   ·rw [List.getElem?_append_left hi] at e; exact h2 i x e
   ·rw [List.getElem?_append_right hi] at e
    have hi2 : i - l.length = 0 := by
     have := (List.getElem?_eq_some_iff.1 e).1
     simp at this; omega
    rw [hi2] at e
    simp at e
    subst e
    have : i = n := by omega
    rw [this]; exact hy
end
end Go.B
