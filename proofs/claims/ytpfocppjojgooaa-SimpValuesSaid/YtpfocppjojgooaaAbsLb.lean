/-
  Maps. Program-independent.
-/
import Derived.Test.YtpfocppjojgooaaAbsLa
set_option linter.unusedSimpArgs false
set_option linter.unusedVariables false
namespace Go.Abs

def ktIs (P : Program) (k : TypeId) (kt : KT) : Bool :=
  match P.underlying k, kt with
  | some .bool, .b | some .string, .s => true
  | some (.int k), .i k' => k == k'
  | _, _ => false
/-- the type of the elements of a map with such keys -/
def mapEl (P : Program) (T : TypeId) (kt : KT) : Option TypeId :=
  match P.underlying T with
  | some (.map k e) => if ktIs P k kt then some e else none
  | _ => none

section
variable {P : Program} {w w' : World} {g g' : Gh} {tmps tmps' : Array Value} {st st' : St} {G G' : Env} {ds : List Deferred}

theorem mapEl_spec {T e : TypeId} {kt : KT} (h : mapEl P T kt = some e) : ∃ k d, P.underlying T = some (.map k e) ∧ P.underlying k = some d ∧ ktIs P k kt = true := by
  unfold mapEl at h
  split at h
  · rename_i k e' hu
    split at h
    · rename_i hk
      cases h
      cases hd : P.underlying k with
      | none => simp [ktIs, hd] at hk
      | some d => exact ⟨k, d, hu, hd, hk⟩
    · cases h
  · cases h

theorem isKey_of {k : TypeId} {d : TypeDesc} {kt : KT} {Fz : Nat → Nat → Prop} {x : TV} {v : Value} (hd : P.underlying k = some d) (hk : ktIs P k kt = true) (hx : kt.is x = true) (hv : TVR w Fz x v) : MapKept.IsKey d v := by
  cases kt <;> cases x <;> first | (simp [KT.is] at hx; done) | skip
  all_goals
    cases hv
    cases d <;> simp_all [ktIs, MapKept.IsKey, KT.is]

theorem now_of {k : TypeId} {d : TypeDesc} {kt : KT} {Fz : Nat → Nat → Prop} {x y : TV} {v u : Value} (hd : P.underlying k = some d) (hk : ktIs P k kt = true) (hx : kt.is x = true) (hy : kt.is y = true) (hv : TVR w Fz x v) (hu : TVR w Fz y u) :
    Instr.sameNow d v u = some (keyEq x y) := by
  cases kt with
  | b =>
    cases x <;> first | (simp [KT.is] at hx; done) | skip
    cases y <;> first | (simp [KT.is] at hy; done) | skip
    cases hv; cases hu
    cases d <;> simp_all [ktIs, Instr.sameNow, keyEq]
  | i kk =>
    cases x <;> first | (simp [KT.is] at hx; done) | skip
    cases y <;> first | (simp [KT.is] at hy; done) | skip
    simp only [KT.is, beq_iff_eq] at hx hy
    subst hx; subst hy
    cases hv; cases hu
    cases d <;> simp_all [ktIs, Instr.sameNow, keyEq]
  | s =>
    cases x <;> first | (simp [KT.is] at hx; done) | skip
    cases y <;> first | (simp [KT.is] at hy; done) | skip
    cases hv with
    | s a =>
    cases hu with
    | s b =>
    have he : (a == b) = (a.data.toList == b.data.toList) := by
      rw [Bool.eq_iff_iff, MapKept.bytes_beq]
      obtain ⟨⟨a⟩⟩ := a
      obtain ⟨⟨b⟩⟩ := b
      simp
    cases d <;> simp_all [ktIs, Instr.sameNow, keyEq]

theorem findNow_midx {k : TypeId} {d : TypeDesc} {kt : KT} {Fz : Nat → Nat → Prop} {key : TV} {kv : Value} (hd : P.underlying k = some d) (hk : ktIs P k kt = true) (hx : kt.is key = true) (hv : TVR w Fz key kv) :
    ∀ (l : List MapEntry) (es : List (TV × EV)) (i : Nat), l.length = es.length → (∀ (j : Nat) (x : TV × EV) (e : MapEntry), es[j]? = some x → l[j]? = some e → TVR w Fz x.1 e.key ∧ kt.is x.1 = true) →
      match midx key es i with
      | none => Instr.findNow d kv l i = some none
      | some n => i ≤ n ∧ ∃ e, l[n - i]? = some e ∧ Instr.findNow d kv l i = some (some (n, e.val)) ∧ e.key = kv
  | [], [], i, _, _ => rfl
  | [], _ :: _, _, h, _ => by simp at h
  | _ :: _, [], _, h, _ => by simp at h
  | e :: l, x :: es, i, hl, h => by
    obtain ⟨a, u⟩ := x
    obtain ⟨h1, h2⟩ := h 0 (a, u) e rfl rfl
    have hn := now_of hd hk hx h2 hv h1
    have hkv := isKey_of hd hk hx hv
    have hke := isKey_of hd hk h2 h1
    simp only [midx, Instr.findNow, hn]
    cases hq : keyEq key a with
    | true =>
      simp only [if_true]
      refine ⟨Nat.le_refl _, e, by simp, rfl, ?_⟩
      obtain ⟨r, r1, r2⟩ := MapKept.sameNow_of_keys hkv hke
      rw [hn] at r1
      cases r1
      exact (r2.1 hq).symm
    | false =>
      simp only [Bool.false_eq_true, if_false]
      have ih := findNow_midx hd hk hx hv l es (i + 1) (by simpa using hl) (fun j x e e1 e2 => h (j + 1) x e (by simpa using e1) (by simpa using e2))
      split at ih
      · exact ih
      · rename_i n hm
        obtain ⟨h3, e', h4, h5, h6⟩ := ih
        refine ⟨by omega, e', ?_, h5, h6⟩
        rw [show n - i = (n - (i + 1)) + 1 by omega]
        simpa using h4

/-- a key is looked for -/
theorem find_run {T el : TypeId} {kt : KT} {key : TV} {kv : Value} {i : Nat} {es : List (TV × EV)} (ht : mapEl P T kt = some el) (hk : keysOk kt key es = true) (hv : TVR w g.Fz key kv) (hb : HBR w g i (.map es)) :
    ∃ k d ents clock, P.underlying T = some (.map k el) ∧ P.underlying k = some d ∧ MapKept.IsKey d kv ∧ w.heap[g.be i]? = some (.map ents clock) ∧ (∀ (j : Nat) (e : MapEntry), ents[j]? = some e → e.born < clock) ∧
      (∀ (k l : Nat) (e e' : MapEntry), ents[k]? = some e → ents[l]? = some e' → e.born = e'.born → k = l) ∧ ents.size = es.length ∧
      (∀ (j : Nat) (x : TV × EV) (e : MapEntry), es[j]? = some x → ents[j]? = some e → TVR w g.Fz x.1 e.key ∧ EVR w g [1, i, 0] x.2 e.val) ∧
      match midx key es 0 with
      | none => Instr.findNow d kv ents.toList 0 = some none
      | some n => ∃ e, ents[n]? = some e ∧ Instr.findNow d kv ents.toList 0 = some (some (n, e.val)) ∧ e.key = kv := by
  obtain ⟨k, d, h1, h2, h3⟩ := mapEl_spec ht
  obtain ⟨ents, clock, b1, b2, b2', b3, b4, b5, b6⟩ := hb
  simp only [keysOk, Bool.and_eq_true, List.all_eq_true] at hk
  have hf := findNow_midx h2 h3 hk.1 hv ents.toList es 0 (by simpa using b3) (fun j x e e1 e2 => ⟨(b6 j x e e1 (by simpa using e2)).1, hk.2 x (List.mem_of_getElem? e1)⟩)
  refine ⟨k, d, ents, clock, h1, h2, isKey_of h2 h3 hk.1 hv, b1, b4, b5, b3, b6, ?_⟩
  split at hf
  · exact hf
  · rename_i n hm
    obtain ⟨_, e, e1, e2, e3⟩ := hf
    exact ⟨e, by simpa using e1, e2, e3⟩

/- a new map -/
theorem done_mkm (h : StR w g tmps st) (he : EnvR w tmps st G) {o : Oper} {d T : Nat} (hd : o.dst = some d) (ho : o.op = .makeMap T none) (hx : exop st (.mkm d) = some st') : Done P w g o { tmps, defers := ds } st' (kill G d) := by
  simp only [exop, Option.some.injEq] at hx
  subst hx
  generalize hg : g.add w [1, g.n] (fun _ => False) true = g1
  have s : Stp w g (w.alloc (.map #[] 0)) g1 Never := hg ▸ Stp.alloc w g _ [1, g.n] (fun _ => False) true h.fz Never (fun h => h)
  have hbe : g1.be g.n = w.heap.size := hg ▸ new_be w g _ _
  have hnn : g1.n = g.n + 1 := hg ▸ new_n w g _ _
  have hom : g1.om w.heap.size = [1, g.n] := by rw [← hg]; simp [Gh.add]
  have hz : ∀ i, ¬ g1.Fz w.heap.size i := by
    intro i hi
    rw [← hg] at hi
    rcases hi with hi | ⟨_, hi⟩
    · have := h.fz _ _ hi; omega
    · exact hi
  have hxx : SVR (w.alloc (.map #[] 0)) g1 [0, d] (.e (.c (.m st.h.length))) (.map (some w.heap.size)) := by
    have := ACR.m (w := w.alloc (.map #[] 0)) (g := g1) (own := [0, d]) st.h.length (by rw [hnn, h.n]; omega)
    rw [← h.n, hbe] at this
    rw [← h.n]
    exact .e (.c this)
  have hb : HBR (w.alloc (.map #[] 0)) g1 st.h.length (.map []) := by
    rw [← h.n]
    exact ⟨#[], 0, by rw [hbe]; exact alloc_get_new _ _, by rw [hbe]; exact hom, by rw [hbe]; exact hz, rfl, fun k e q => by simp at q, fun k l e e' q => by simp at q, fun k x e q => by simp at q⟩
  refine ⟨.value (.map (some w.heap.size)), _, _, g1, ?_, .inl rfl, ?_, ?_, s.mono (fun _ h => h.elim) nn⟩
  · simp [execOp, ho, Instr.makeMap, newObj]; rfl
  · rw [hd]; exact h.grow s d _ _ _ hnn hxx hb (hg ▸ add_fz h _ _ _ _) (hg ▸ add_om h _ _ _ _)
  · rw [hd]; exact he.grow h s d _ _ _

/- lookups -/
def zeroSh (P : Program) (t : TypeId) (agg : Bool) : Bool :=
  match (P.info? t).bind (·.zero) with
  | some (.agg _) => agg
  | some (.tuple _) => false
  | some _ => !agg
  | none => false

theorem zero_pack {T : TypeId} {zero : List TV} {agg : Bool} {z : EV} (hz : zeroIs P T zero = true) (hs : zeroSh P T agg = true) (hp : pack agg (zero.map .t) = some z) :
    ∃ u, (∀ w : World, (zeroValue T).run P w = .ok u w) ∧ ∀ own, EVR w g own z u := by
  obtain ⟨u, u1, u2⟩ := zero_plain (w := w) (g := g) hz
  have hu : (P.info? T).bind (·.zero) = some u := by
    unfold zeroIs at hz
    cases hq : (P.info? T).bind (·.zero) with
    | none => rw [hq] at hz; cases hz
    | some u' =>
      cases hi : P.info? T with
      | none => rw [hi] at hq; cases hq
      | some ti =>
        rw [hi] at hq
        have hq' : ti.zero = some u' := by simpa using hq
        have := u1 w
        simp [zeroValue, typeInfo, hi, hq'] at this
        rw [this]
  refine ⟨u, u1, fun own => ?_⟩
  unfold zeroSh at hs
  rw [hu] at hs
  cases agg with
  | true =>
    simp only [pack, if_true, Option.some.injEq] at hp
    subst hp
    cases u <;> first | (simp at hs; done) | skip
    exact .ag (u2.cells own)
  | false =>
    simp only [pack, Bool.false_eq_true, if_false] at hp
    split at hp
    · rename_i x hx
      cases hp
      have hone : u.cells = #[u] := by cases u <;> first | (simp at hs; done) | rfl
      rw [hx, hone] at u2
      exact .c ((u2.2 0 x u rfl rfl).2 own)
    · cases hp

theorem done_lkp (h : StR w g tmps st) (he : EnvR w tmps st G) {o : Oper} {d T el : Nat} {a b : Operand} {m k : AO} {kt : KT} {zero : List TV} {agg ok : Bool} (hd : o.dst = some d) (ho : o.op = .lookup T a b ok) (ha : opd a m = true) (hb : opd b k = true)
    (ht : mapEl P T kt = some el) (hz : zeroIs P el zero = true) (hzs : zeroSh P el agg = true) (hx : exop st (.lkp d m k kt zero agg ok) = some st') : Done P w g o { tmps, defers := ds } st' (kill G d) := by
  -- what is handed back
  have fin : ∀ (r : Option (Nat × Value)) (e : EV) (u : Value) (b : Bool), (∀ own, EVR w g own e u) →
      SVR w g [0, d] (if ok then .tu [e, .c (.t (.b b))] else .e e) (if ok then .tuple #[u, .bool b] else u) := by
    intro r e u b hu
    cases ok with
    | false => exact .e (hu _)
    | true =>
      refine .tu _ _ rfl (fun j y v e1 e2 => ?_)
      match j with
      | 0 => simp at e1 e2; subst e1 e2; exact hu _
      | 1 => simp at e1 e2; subst e1 e2; exact .c (.t (.b b))
      | j + 2 => simp at e1
  simp only [exop] at hx
  split at hx
  · rename_i blk key z e1 e2 e3
    obtain ⟨zu, z1, z2⟩ := zero_pack (w := w) (g := g) hz hzs e3
    split at hx
    · rename_i es e4
      split at hx
      · rename_i hk
        cases hx
        have hm := opd_c (ds := ds) h ha e1 []
        have hkv := evT_sound (ds := ds) h hb e2
        generalize hva : Act.eval { tmps, defers := ds } a = va at hm
        generalize hvb : Act.eval { tmps, defers := ds } b = vb at hkv
        cases hm with
        | m _ hlt =>
        obtain ⟨kT, dd, ents, clock, f1, f2, f3, f4, f5, f5', f6, f7, f8⟩ := find_run ht hk hkv (h.hp blk _ e4)
        split at f8
        · rename_i hmi
          refine done_val h he hd (v := if ok then .tuple #[zu, .bool false] else zu) ?_ ?_
          · simp [execOp, ho, hva, hvb, Instr.lookup, run_under f1, MapKept.run_getObj_map f4, MapKept.run_checkKey f2 f3, MapKept.run_findKey f2 f8, z1, Result.andThen]
          · simp only [mget, hmi, Option.bind_none]
            exact fin none z zu false z2
        · rename_i n hmi
          obtain ⟨e, g1, g2, g3⟩ := f8
          have hn : n < es.length := by rw [← f6]; exact (Array.getElem?_eq_some_iff.1 g1).1
          have hes : es[n]? = some es[n] := by simp [hn]
          refine done_val h he hd (v := if ok then .tuple #[e.val, .bool true] else e.val) ?_ ?_
          · simp [execOp, ho, hva, hvb, Instr.lookup, run_under f1, MapKept.run_getObj_map f4, MapKept.run_checkKey f2 f3, MapKept.run_findKey f2 g2, Result.andThen]
          · simp only [mget, hmi, Option.bind_some, hes, Option.map_some]
            exact fin none _ e.val true (fun own => (f7 n _ e hes g1).2.read own)
      · cases hx
    · cases hx
  · rename_i key z e1 e2 e3
    obtain ⟨zu, z1, z2⟩ := zero_pack (w := w) (g := g) hz hzs e3
    split at hx
    · rename_i hk
      cases hx
      obtain ⟨kT, dd, f1, f2, f3⟩ := mapEl_spec ht
      have hm := acr_t (opd_c (ds := ds) h ha e1 [])
      have hkv := evT_sound (ds := ds) h hb e2
      generalize hva : Act.eval { tmps, defers := ds } a = va at hm
      generalize hvb : Act.eval { tmps, defers := ds } b = vb at hkv
      cases hm
      have f4 := isKey_of f2 f3 hk hkv
      refine done_val h he hd (v := if ok then .tuple #[zu, .bool false] else zu) ?_ (fin none z zu false z2)
      have fk : (Instr.findKey kT vb []).run P w = .ok none w := MapKept.run_findKey f2 rfl
      simp [execOp, ho, hva, hvb, Instr.lookup, run_under f1, MapKept.run_checkKey f2 f4, fk, z1, Result.andThen]
    · cases hx
  · cases hx

/- updates -/
theorem noIt_get {blk i : Nat} {h : List HB} {b : HB} (e : (noIt blk h)[i]? = some b) : b = .gone ∨ (h[i]? = some b ∧ ∀ l c, b ≠ .iter blk l c) := by
  unfold noIt at e
  obtain ⟨b0, e0, e1⟩ := map_get e
  split at e1
  · rename_i mp l c
    split at e1
    · exact .inl e1.symm
    · rename_i hne
      subst e1
      refine .inr ⟨e0, fun l' c' hc => ?_⟩
      cases hc
      exact hne rfl
  · rename_i hno
    subst e1
    exact .inr ⟨e0, fun l c hc => hno blk l c hc⟩

theorem StR.noIt (h : StR w g tmps st) (blk : Nat) : StR w g tmps { st with h := noIt blk st.h } := by
  refine ⟨h.len, h.sl, fun i b e => ?_, h.fz, h.om, by simp [Go.Abs.noIt, h.n]⟩
  rcases noIt_get e with rfl | ⟨e, _⟩
  · trivial
  · exact h.hp i b e

theorem Stp.obj {r : Nat} {o o' : Obj} (hb : w.heap[r]? = some o) {blk : Nat} (ho : g.om r = [1, blk]) (hz : ∀ i, ¬ g.Fz r i) : Stp w g { w with heap := w.heap.setIfInBounds r o' } g (atBlk blk) :=
  Stp.write w _ g r _ (by simp [atBlk]) ho (by simp) (fun d hd => (MapKept.heap_set (o' := o') hb).2 d hd) (fun i h => (hz i h).elim) rfl rfl

theorem mput_some {key : TV} {x : EV} {es : List (TV × EV)} {n : Nat} (hm : midx key es 0 = some n) : mput key x es = es.set n (key, x) := by unfold mput; rw [hm]
theorem mput_none {key : TV} {x : EV} {es : List (TV × EV)} (hm : midx key es 0 = none) : mput key x es = es ++ [(key, x)] := by unfold mput; rw [hm]

theorem done_mst (h : StR w g tmps st) (he : EnvR w tmps st G) {o : Oper} {T el : Nat} {a b c : Operand} {m k v : AO} {kt : KT} (hd : o.dst = none) (ho : o.op = .mapUpdate T a b c) (ha : opd a m = true) (hb : opd b k = true) (hc : opd c v = true)
    (ht : mapEl P T kt = some el) (hx : exop st (.mst m k v kt) = some st') : Done P w g o { tmps, defers := ds } st' G := by
  simp only [exop] at hx
  split at hx
  · rename_i blk key x e1 e2 e3
    split at hx
    · rename_i es e4
      split at hx
      · rename_i hk
        cases hx
        have hm := opd_c (ds := ds) h ha e1 []
        have hkv := evT_sound (ds := ds) h hb e2
        have hvv := opd_sound (ds := ds) h hc e3 [1, blk, 0]
        generalize hva : Act.eval { tmps, defers := ds } a = va at hm
        generalize hvb : Act.eval { tmps, defers := ds } b = vb at hkv
        generalize hvc : Act.eval { tmps, defers := ds } c = vc at hvv
        cases hm with
        | m _ hlt =>
        obtain ⟨kT, dd, ents, clock, f1, f2, f3, f4, f5, f5', f6, f7, f8⟩ := find_run ht hk hkv (h.hp blk _ e4)
        obtain ⟨_, _, _, hom, hzz, _⟩ := h.hp blk _ e4
        -- the end: the entries as they are now
        have fin : ∀ (ents' : Array MapEntry) (clock' : Nat), (Instr.mapUpdate T (.map (some (g.be blk))) vb vc).run P w = .ok () { w with heap := w.heap.setIfInBounds (g.be blk) (.map ents' clock') } →
            (∀ (k : Nat) (e : MapEntry), ents'[k]? = some e → e.born < clock') → (∀ (k l : Nat) (e e' : MapEntry), ents'[k]? = some e → ents'[l]? = some e' → e.born = e'.born → k = l) →
            ents'.size = (mput key x es).length → (∀ (j : Nat) (y : TV × EV) (e : MapEntry), (mput key x es)[j]? = some y → ents'[j]? = some e → TVR w g.Fz y.1 e.key ∧ EVR w g [1, blk, 0] y.2 e.val) →
            Done P w g o { tmps, defers := ds } { st with h := (Go.Abs.noIt blk st.h).set blk (.map (mput key x es)) } G := by
          intro ents' clock' hrun k1 k2 k3 k4
          have s1 : Stp w g { w with heap := w.heap.setIfInBounds (g.be blk) (.map ents' clock') } g (atBlk blk) := Stp.obj f4 hom hzz
          have hb' : HBR { w with heap := w.heap.setIfInBounds (g.be blk) (.map ents' clock') } g blk (.map (mput key x es)) := by
            refine ⟨ents', clock', (MapKept.heap_set f4).1, hom, hzz, k3, k1, k2, fun j y e q1 q2 => ?_⟩
            obtain ⟨r1, r2⟩ := k4 j y e q1 q2
            exact ⟨r1.mono s1.fz, r2.step s1 (fun r hr => by simp [atBlk] at hr)⟩
          refine ⟨.skip, undef, _, g, ?_, .inr ⟨rfl, rfl⟩, ?_, ?_, s1.mono (fun o e => by rw [e]; simp) nn⟩
          · simp only [execOp, ho, hva, hvb, hvc, Sem.run_bind, hrun, Result.andThen_ok]; rfl
          · rw [hd]
            exact (h.noIt blk).chg s1 rfl (fun i l c e => by
              rcases noIt_get e with q | ⟨_, q⟩
              · cases q
              · exact (q l c rfl).elim) _ hb' (fun c o h' => by simpa using h.fz c o h') (fun c h' => by simpa using h.om c h')
          · rw [hd]; exact he.chg h s1 _
        split at f8
        · rename_i hmi
          refine fin (ents.push { key := vb, val := vc, born := clock }) (clock + 1) ?_ (fun k e q => ?_) (fun k l e e' q1 q2 q3 => ?_) (by rw [mput_none hmi]; simp [f6]) (fun j y e q1 q2 => ?_)
          · simp [Instr.mapUpdate, run_under f1, MapKept.run_getObj_map f4, MapKept.run_checkKey f2 f3, MapKept.run_findKey f2 f8, MapKept.run_setObj_map _ f4, Result.andThen]
          · rw [Array.getElem?_push] at q
            split at q
            · cases q; exact Nat.lt_succ_self _
            · have := f5 k e q; omega
          · rw [Array.getElem?_push] at q1 q2
            split at q1 <;> split at q2
            · omega
            · cases q1; have := f5 l e' q2; simp at q3; omega
            · cases q2; have := f5 k e q1; simp at q3; omega
            · exact f5' k l e e' q1 q2 q3
          · rw [mput_none hmi] at q1
            rw [Array.getElem?_push] at q2
            rcases app_get q1 with ⟨hi, q1⟩ | ⟨hi, q1⟩
            · rw [if_neg (by omega)] at q2; exact f7 j y e q1 q2
            · have := get_lt q1
              have hj : j = es.length := by simp at this; omega
              subst hj
              rw [if_pos f6.symm] at q2
              simp at q1 q2
              subst q1 q2
              exact ⟨hkv, hvv⟩
        · rename_i n hmi
          obtain ⟨e0, g1, g2, g3⟩ := f8
          have hn : n < es.length := by rw [← f6]; exact (Array.getElem?_eq_some_iff.1 g1).1
          have key : ∀ (k : Nat) (e : MapEntry), (ents.modify n fun e => { e with key := vb, val := vc })[k]? = some e → (k = n ∧ e = { e0 with key := vb, val := vc }) ∨ (k ≠ n ∧ ents[k]? = some e) := by
            intro k e q
            rw [Array.getElem?_modify] at q
            split at q
            · rename_i hk; subst hk; rw [g1] at q; simp at q; exact .inl ⟨rfl, q.symm⟩
            · rename_i hk; exact .inr ⟨fun e => hk e.symm, q⟩
          refine fin (ents.modify n fun e => { e with key := vb, val := vc }) clock ?_ (fun k e q => ?_) (fun k l e e' q1 q2 q3 => ?_) (by rw [mput_some hmi]; simp [f6]) (fun j y e q1 q2 => ?_)
          · simp [Instr.mapUpdate, run_under f1, MapKept.run_getObj_map f4, MapKept.run_checkKey f2 f3, MapKept.run_findKey f2 g2, g1, g3, MapKept.run_keyThatStays f3, MapKept.run_setObj_map _ f4, Result.andThen]
          · rcases key k e q with ⟨rfl, rfl⟩ | ⟨_, q⟩
            · exact f5 _ e0 g1
            · exact f5 k e q
          · rcases key k e q1 with ⟨hk, he1⟩ | ⟨hk, p1⟩ <;> rcases key l e' q2 with ⟨hl, he2⟩ | ⟨hl, p2⟩
            · rw [hk, hl]
            · rw [hk]; exact f5' _ _ _ _ g1 p2 (by rw [← q3, he1])
            · rw [hl]; exact f5' _ _ _ _ p1 g1 (by rw [q3, he2])
            · exact f5' _ _ _ _ p1 p2 q3
          · rw [mput_some hmi] at q1
            rcases set_get q1 with ⟨rfl, rfl⟩ | ⟨hj, q1⟩
            · rcases key _ e q2 with ⟨_, rfl⟩ | ⟨hk, _⟩
              · exact ⟨hkv, hvv⟩
              · exact (hk rfl).elim
            · rcases key _ e q2 with ⟨hk, _⟩ | ⟨_, q2⟩
              · exact (hj hk).elim
              · exact f7 j y e q1 q2
      · cases hx
    · cases hx
  · cases hx

end
end Go.Abs
