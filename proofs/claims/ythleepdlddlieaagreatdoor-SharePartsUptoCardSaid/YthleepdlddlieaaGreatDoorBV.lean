/-
  From a contract without addresses to the given form of a law: what is read is a tree; behind the call it reads as before. Program-independent.
-/
import Derived.Test.YthleepdlddlieaaGreatDoorBS
import Derived.ChangeSame
import Derived.JoinedOf
import Derived.JoinedAt
import Derived.RowKit
import Derived.RowKit2
import Derived.ReadAgain
import Derived.ChangeAlike
import Derived.ChangeReads
import Derived.ChangeOld
set_option linter.unusedSimpArgs false
set_option linter.unusedVariables false
set_option linter.unusedSectionVars false
namespace Go.B
variable [iok : OkC]
open Go.ChangeShapes Go.WideShapes Go.ChangeAt Go.RowKit

section
variable {H : Type} {enc : TypeId × Value → H} {P : Program} {W W' : World} {T : TypeId → Prop}

/-- of what was there nothing has changed -/
structure Kept (W W' : World) : Prop where
  size : W.heap.size ≤ W'.heap.size
  heap : ∀ c, c < W.heap.size → W'.heap[c]? = W.heap[c]?
  out : W'.output = W.output
  os : W'.os = W.os

theorem Kept.same (h : Kept W W') {p : MemPlace} (hp : p.block < W.heap.size) : W.sameAt W' p := by
  cases p with
  | cell b o => simp only [World.sameAt, World.cell?, h.heap b hp]
  | map b => exact h.heap b hp
theorem Kept.frozen (h : Kept W W') {b o : Nat} (hp : b < W.heap.size) : W'.frozen? ⟨b, o, none⟩ = W.frozen? ⟨b, o, none⟩ := by
  simp only [World.frozen?, h.heap b hp]
theorem Kept.but (h : Kept W W') (may : MemPlace → Prop) : W.keptBut W' may := by
  refine ⟨h.os, h.out, fun i hi => ?_⟩
  rw [h.heap i hi]
  cases W.heap[i]? with
  | none => rfl
  | some o => cases o <;> first | exact ⟨rfl, rfl, rfl, fun _ _ => rfl⟩ | exact .inr ⟨rfl, rfl⟩ | rfl

theorem trod_kept (h : Kept W W') {base : Nat} {sp : Nat → Bool} {held : Bool} : ∀ {ts : List TypeId} {vs : List Value} {ds : List (DataW H)} {ps : List MemPlace}, DataW.TrodAll enc P W base sp held ts vs ds ps → (∀ p ∈ ps, p.block < W.heap.size) → DataW.TrodAll enc P W' base sp held ts vs ds ps
  | [], [], [], _, h1, _ => h1
  | [], [], _ :: _, _, h1, _ => h1.elim
  | [], _ :: _, _, _, h1, _ => h1.elim
  | _ :: _, [], _, _, h1, _ => h1.elim
  | _ :: _, _ :: _, [], _, h1, _ => h1.elim
  | t :: ts, v :: vs, d :: ds, ps, ⟨p, q, ⟨n, h1⟩, h2, e⟩, hl => by
    refine ⟨p, q, ⟨n, DataW.trod_carry n _ _ _ h1 (fun x hx => h.same (hl x ?_))⟩, trod_kept h h2 (fun x hx => hl x ?_), e⟩
    · rw [e]; exact List.mem_append_left _ hx
    · rw [e]; exact List.mem_append_right _ hx

theorem post_kept {f : Func} {s : ChangeSpec} {apart fresh handsOn again : Bool} {args : Array Value} {v : Value} {ds gs : List (DataW H)} {before pa pv : List MemPlace}
    (hW : DataW.Whole enc P f.params.toList s.vars apart W args.toList ds gs before)
    (hres : ∀ (b : Nat) (sp : Nat → Bool) (hd : Bool), DataW.TrodAll enc P W' b sp hd f.resultTypes.toList (v.resultList f.resultTypes.size) (s.fn H (ds ++ gs)).results [])
    (hargs : ∀ sp : Nat → Bool, (∀ p ∈ before, sp p.block = true) → DataW.TrodAll enc P W' 0 sp true f.params.toList args.toList (s.fn H (ds ++ gs)).args pa)
    (hvars : ∀ sp : Nat → Bool, (∀ p ∈ before, sp p.block = true) → DataW.TrodVars enc P W' sp s.vars (s.fn H (ds ++ gs)).vars pv)
    (hps : before = pa ++ pv) (hk : W.keptBut W' (· ∈ before)) (hfz : ∀ b off, MemPlace.cell b off ∈ before → W'.frozen? ⟨b, off, none⟩ = W.frozen? ⟨b, off, none⟩)
    (hok : ∀ (j : Nat) (t : TypeId) (r : Value), f.resultTypes[j]? = some t → (v.resultList f.resultTypes.size)[j]? = some r → Value.okWide P W' .any 0 t r) :
    s.post enc P f apart fresh handsOn again W args v W' := by
  have hold : ∀ p ∈ before, (fun b => decide (b < W.heap.size)) p.block = true := fun p hp => by simpa using hW.lt p hp
  refine ⟨ds, gs, before, [], pa, pv, hW, hres _ _ _, hargs _ hold, hvars _ hold, World.keptBut_mono (fun p hp => ⟨hp, ?_⟩) hk, fun _ => ?_⟩
  · rw [hps, List.mem_append] at hp
    exact Or.inr hp
  · obtain ⟨_, _, _, _, _, hz, hn⟩ := hW
    refine ⟨hok, _, _, ([] ++ pa) ++ pv, ⟨[] ++ pa, pv, trodAll_append (hargs _ (fun _ _ => rfl)) (hres _ _ _), hvars _ (fun _ _ => rfl), rfl, ?_, ?_⟩, ?_⟩
    · intro b off hp
      have hb : MemPlace.cell b off ∈ before := by rw [hps]; simpa using hp
      rw [hfz b off hb]
      exact hz b off hb
    · intro ha
      have := hn ha
      rw [hps] at this
      simpa using this
    · intro p hp _
      rw [hps]
      simpa using hp

/-- a law without variables of its own that answers true and leaves what it was given -/
theorem law_post {f : Func} {s : ChangeSpec} {apart fresh handsOn again : Bool} {args : Array Value} {ds gs : List (DataW H)} {before : List MemPlace} {tb : TypeId} (K : Kids P T)
    (hfull : ∀ t e, T t → P.underlying t = some (.slice e) → 0 < P.cellsOf e) (hT : ∀ t ∈ f.params.toList, T t) (hr : f.resultTypes = #[tb]) (htb : P.underlying tb = some .bool) (hsv : s.vars = [])
    (hW : DataW.Whole enc P f.params.toList s.vars apart W args.toList ds gs before) (hfr : (s.fn H (ds ++ gs)).results = [.lit (.bool true)]) (hfa : (s.fn H (ds ++ gs)).args = ds) (hfv : (s.fn H (ds ++ gs)).vars = []) (hk : Kept W W') :
    s.post enc P f apart fresh handsOn again W args (.bool true) W' := by
  have hlt := hW.lt
  have hW2 := hW
  obtain ⟨p, q, hA, hV, hb, _, _⟩ := hW2
  have hV' := hV
  rw [hsv] at hV'
  obtain ⟨rfl, rfl⟩ := trodVars_none hV'
  simp only [List.append_nil] at hb
  have hb' := hb.symm
  subst hb'
  refine post_kept (pa := p) (pv := []) hW (fun b sp hd => ?_) (fun sp hsp => ?_) (fun sp hsp => ?_) (by simp) (hk.but _) (fun b off hp => hk.frozen (hlt _ hp)) (ok_one hr rfl (okWide_bool_mk htb _))
  · rw [hr, hfr]; exact trodAll_mk1 (shut_bool htb true)
  · rw [hfa]
    exact trod_kept hk (DataW.TrodAll.respare K hfull hT hA hsp) hlt
  · rw [hsv, hfv]; rfl

end

/-- every cell that is there is frozen -/
def gW (W : World) : G := { be := fun _ => 0, cz := fun _ => 0, dom := fun _ => False, fz := fun c o => W.cell? ⟨c, o, none⟩ }

/-- cells that stand for a row of values -/
def RowR (W : World) (cs : List Value) (row : List V) : Prop := cs.length = row.length ∧ ∀ (j : Nat) (x : V) (v : Value), row[j]? = some x → cs[j]? = some v → VR (gW W) x v ∧ v.oneCell' = true

section
variable {P : Program} {W : World} {H : Type} {enc : TypeId × Value → H}

/-- a contract without addresses, where the arguments are read from memory -/
theorem law_calls {f : FuncId} {xs : List V} (hp : PC P f xs (.b true)) {args : Array Value} (hs : args.size = xs.length)
    (hv : ∀ (i : Nat) (x : V) (v : Value), xs[i]? = some x → args[i]? = some v → VR (gW W) x v) :
    Calls P f args W fun e W' => e = .returned (.bool true) ∧ Kept W W' := by
  refine (hp.2 W (gW W) args ⟨fun _ => trivial, fun a h => (by cases h), fun a b h => (by cases h), fun a h => h.elim, fun a h => h.elim, fun c o v h => ⟨h, fun a h => (by cases h)⟩⟩ ⟨hs, hv⟩).mono ?_
  rintro e W' ⟨h', nx', v, g', rfl, hr, hH, s, _⟩
  have hvb : v = .bool true := vr_b hr
  subst hvb
  exact ⟨rfl, ⟨s.size, fun c hc => s.keep c hc (fun a h => (by cases h)), s.out, s.os⟩⟩

theorem agg_of_cells {v : Value} {n : Nat} (h : v.cells.toList.length = n) (hn : n ≠ 1) : ∃ a, v = .agg a := by
  cases v <;> first | exact ⟨_, rfl⟩ | (simp [Value.cells] at h; omega)

theorem vr_agg {a : Array Value} {row : List V} (h : RowR W a.toList row) : VR (gW W) (.ag row) (.agg a) :=
  .ag row a (by simpa using h.1) (fun j v e => by
    have hj : j < row.length := by rw [← h.1]; simpa using (Array.getElem?_eq_some_iff.1 e).1
    exact (h.2 j row[j] v (by simp [hj]) (by simpa using e)).2) (fun j x v e1 e2 => (h.2 j x v e1 (by simpa using e2)).1)

theorem mapM_some_length {α β : Type} {f : α → Option β} : ∀ {l : List α} {r : List β}, l.mapM f = some r → r.length = l.length
  | [], r, h => by simp at h; subst h; rfl
  | a :: l, r, h => by
    simp only [List.mapM_cons, Option.pure_def, Option.bind_eq_bind, Option.bind_eq_some_iff] at h
    obtain ⟨b, _, bs, h2, h3⟩ := h
    cases h3
    simp [mapM_some_length h2]
theorem mapM_some_get {α β : Type} {f : α → Option β} : ∀ {l : List α} {r : List β}, l.mapM f = some r → ∀ (j : Nat) (a : α), l[j]? = some a → f a = r[j]?
  | [], r, h, j, a, e => by simp at e
  | x :: l, r, h, j, a, e => by
    simp only [List.mapM_cons, Option.pure_def, Option.bind_eq_bind, Option.bind_eq_some_iff] at h
    obtain ⟨b, h1, bs, h2, h3⟩ := h
    cases h3
    cases j with
    | zero => simp at e; subst e; simpa using h1
    | succ j => simpa using mapM_some_get h2 j a (by simpa using e)

theorem cells_get {base : Nat} {a : Addr} {n : Nat} {cs : List Value} (h : W.cells? base a n = some cs) : cs.length = n ∧ ∀ j, j < n → ∃ v, cs[j]? = some v ∧ W.cell? (a.add j) = some v := by
  unfold World.cells? at h
  split at h
  · refine ⟨by simpa using mapM_some_length h, fun j hj => ?_⟩
    have := mapM_some_get h j j (by simp [hj])
    have hl : cs.length = n := by simpa using mapM_some_length h
    refine ⟨cs[j]'(by omega), by simp [hl, hj], ?_⟩
    rw [this]; simp [hl, hj]
  · cases h

theorem choose_list {α : Type} {p : Nat → α → Prop} : ∀ (n : Nat), (∀ i, i < n → ∃ x, p i x) → ∃ l : List α, l.length = n ∧ ∀ i x, l[i]? = some x → p i x
  | 0, _ => ⟨[], rfl, fun i x e => by simp at e⟩
  | n + 1, h => by
    obtain ⟨l, h1, h2⟩ := choose_list n (fun i hi => h i (by omega))
    obtain ⟨y, hy⟩ := h n (by omega)
    refine ⟨l ++ [y], by simp [h1], fun i x e => ?_⟩
    rcases Nat.lt_or_ge i l.length with hi | hi
    · rw [List.getElem?_append_left hi] at e; exact h2 i x e
    · rw [List.getElem?_append_right hi] at e
      have hi2 : i - l.length = 0 := by
        have := (List.getElem?_eq_some_iff.1 e).1
        simp at this; omega
      rw [hi2] at e
      simp at e
      subst e
      have : i = n := by omega
      rw [this]; exact hy

/-- a slice that is read stands for the rows that its elements stand for -/
theorem vr_slice {e t fuel : Nat} {wd : Nat} {cs : List Value} {x : DataW H × List MemPlace} {base : Nat} {held : Bool} {α : Type} (row : α → List V) (ht : P.underlying t = some (.slice e)) (hwd : P.cellsOf e = wd) (hw0 : wd ≠ 0) (hrw : ∀ a, (row a).length = wd)
    (hel : ∀ n cs x, n < fuel → DataW.trod enc P W base (fun _ => true) held n e cs = some x → ∃ a, RowR W cs (row a)) (h : DataW.trod enc P W base (fun _ => true) held fuel t cs = some x) :
    ∃ l : List α, ∃ v, cs = [v] ∧ VR (gW W) (.ts (l.map row)) v ∧ v.oneCell' = true := by
  rcases DataW.trod_slice ht h with ⟨rfl, _⟩ | ⟨a, len, cap, elems, rest, n, rfl, rfl, _, _, hle, _, hlen, hE, _, _⟩
  · exact ⟨[], _, rfl, .ts0, rfl⟩
  · obtain ⟨l, l1, l2⟩ := choose_list (α := α) (p := fun i y => ∃ csi, W.cells? base (a.add (i * wd)) wd = some csi ∧ RowR W csi (row y)) len (fun i hi => by
      have := hE i hi
      have hel' : elems[i]? = some elems[i] := by simp [hlen, hi]
      rw [hel', hwd] at this
      obtain ⟨csi, c1, c2⟩ := Option.bind_eq_some_iff.1 this
      obtain ⟨y, hy⟩ := hel n csi _ (Nat.lt_succ_self _) c2
      exact ⟨y, csi, c1, hy⟩)
    refine ⟨l, _, rfl, ?_, rfl⟩
    by_cases h0 : len = 0
    · subst h0
      have : l = [] := List.length_eq_zero_iff.1 l1
      subst this
      exact .tse a cap
    · -- the address has no spot
        have hspot : a.spot = none := by
          obtain ⟨csi, c1, c2⟩ := l2 0 (l[0]'(by omega)) (by simp)
          obtain ⟨_, c3⟩ := cells_get c1
          obtain ⟨v, _, hc⟩ := c3 0 (by omega)
          simp only [Nat.zero_mul, Addr.add, if_true] at hc
          unfold World.cell? at hc
          split at hc
          · split at hc
            · cases hc
            · rename_i hs; simpa using hs
          · cases hc
        obtain ⟨ab, ao, as'⟩ := a
        simp only at hspot
        subst hspot
        have key : ∀ (i j : Nat) (r : List V) (x : V), (l.map row)[i]? = some r → r[j]? = some x → ∃ v, W.cell? ⟨ab, ao + i * wd + j, none⟩ = some v ∧ VR (gW W) x v ∧ v.oneCell' = true := by
          intro i j r x e1 e2
          rw [List.getElem?_map, Option.map_eq_some_iff] at e1
          obtain ⟨y, y1, rfl⟩ := e1
          obtain ⟨csi, c1, c2⟩ := l2 i y y1
          obtain ⟨c0, c3⟩ := cells_get c1
          have hj : j < wd := by rw [← hrw y]; exact (List.getElem?_eq_some_iff.1 e2).1
          obtain ⟨v, v1, v2⟩ := c3 j hj
          refine ⟨v, ?_, c2.2 j x v e2 v1⟩
          rw [← v2]
          congr 1
          simp only [Addr.add]
          split <;> split <;> simp_all <;> omega
        have hres : VR (gW W) (.ts (l.map row)) (.slice (some ⟨ab, ao, none⟩) (l.map row).length cap) := by
          refine .ts (l.map row) wd ab ao cap (fun i j => (W.cell? ⟨ab, ao + i * wd + j, none⟩).getD undef) (fun i r e => ?_) (by simpa [l1] using hle) (fun i j r x e1 e2 => ?_) (fun i j r x e1 e2 => ?_)
          · rw [List.getElem?_map, Option.map_eq_some_iff] at e
            obtain ⟨y, _, rfl⟩ := e; exact hrw y
          · obtain ⟨v, v1, _, v3⟩ := key i j r x e1 e2
            have v1' : (gW W).fz ab (ao + i * wd + j) = some v := v1
            rw [v1', v1]; exact ⟨rfl, v3⟩
          · obtain ⟨v, v1, v2, _⟩ := key i j r x e1 e2
            rw [v1]; exact v2
        rw [List.length_map, l1] at hres
        exact hres

end
end Go.B
