/-
  Appends, copies, maps: the operations. The check of one operation; what it leaves behind. Program-independent.
-/
import Derived.Test.YtagogibgoknncaaGreatDoorBI
set_option linter.unusedSectionVars false
set_option linter.unusedVariables false
set_option linter.unusedSimpArgs false
namespace Go.B
variable [iok : OkC]
section
variable {P : Program} {w w' : World} {g g' : G} {H H' : Hp} {nx : Nat} {tmps : Array Value} {sl : Nat → V} {st st' : St} {ds : List Deferred}
theorem flat_get {wd : Nat} : ∀ {rows : List (List V)}, (∀ r, r ∈ rows → r.length = wd) → ∀ (k : Nat) (x : V), rows.flatten[k]? = some x → ∃ i j row, rows[i]? = some row ∧ row[j]? = some x ∧ k = i * wd + j
 | [], _, k, x, e => by simp at e
 | row :: rows, hw, k, x, e => by
   have h0 := hw row (by simp)
   simp only [List.flatten_cons] at e
   rcases Nat.lt_or_ge k row.length with hk | hk
   ·rw [List.getElem?_append_left hk] at e
    exact ⟨0, k, row, rfl, e, by omega⟩
   ·rw [List.getElem?_append_right hk] at e
    obtain ⟨i, j, r, h1, h2, h3⟩ := flat_get (fun r hr => hw r (List.mem_cons_of_mem _ hr)) _ x e
    refine ⟨i + 1, j, r, by simpa using h1, h2, ?_⟩
    rw [Nat.add_mul, Nat.one_mul]; omega
theorem ak3 {wd : Nat} : ∀ {rows : List (List V)}, (∀ r, r ∈ rows → r.length = wd) → rows.flatten.length = rows.length * wd
 | [], _ => by simp
 | row :: rows, hw => by
   simp only [List.flatten_cons, List.length_append, List.length_cons, ak3 (fun r hr => hw r (List.mem_cons_of_mem _ hr)), hw row (by simp), Nat.add_mul, Nat.one_mul]
   omega
theorem ts_cells (hh : HR w g H nx) {rows : List (List V)} {wd : Nat} {v : Value} (hv : VR g (.ts rows) v) (hw : ∀ r, r ∈ rows → r.length = wd) :
  ∃ new, Plain g rows.flatten new ∧ (Builtin.lenOf v).run P w = .ok rows.length w ∧ ∀ w0, WEq w w0 → (Builtin.firstCells wd rows.length v).run P w0 = .ok new w0 := by
 cases hv with
 | ts0 => exact ⟨#[], ⟨by simp, fun j x v e => by simp at e⟩, by simp [Builtin.lenOf], fun w0 _ => by simp [Builtin.firstCells]⟩
 | tse a cap => exact ⟨#[], ⟨by simp, fun j x v e => by simp at e⟩, by simp [Builtin.lenOf], fun w0 _ => by simp [Builtin.firstCells, loadCells, loadCellsFrom]⟩
 | ts _ wd' c o cap u hw' hcap hc hr =>
   have hcell : ∀ (k : Nat) (x : V), rows.flatten[k]? = some x → ∃ vv, w.cell? ⟨c, o + k, none⟩ = some vv ∧ vv.oneCell' = true ∧ VR g x vv := by
    intro k x e
    obtain ⟨i, j, row, h1, h2, h3⟩ := flat_get hw k x e
    have hwd : wd' = wd := by rw [← hw' i row h1, hw row (List.mem_of_getElem? h1)]
    subst hwd
    obtain ⟨q1, q2⟩ := hc i j row x h1 h2
    refine ⟨u i j, ?_, q2, hr i j row x h1 h2⟩
    rw [h3, show o + (i * wd' + j) = o + i * wd' + j by omega]
    exact (hh.fz _ _ _ q1).1
   have hl := ak3 hw
   obtain ⟨vs, v1, v2⟩ := av2 (w := w) c o (rows.length * wd) (fun j hj => by
    have hj' : j < rows.flatten.length := by rw [hl]; exact hj
    obtain ⟨vv, e1, _⟩ := hcell j _ (List.getElem?_eq_getElem hj')
    exact ⟨vv, e1⟩)
   refine ⟨vs.toArray, ⟨by simp [v1, hl], fun j x v e1 e2 => ?_⟩, by simp [Builtin.lenOf], fun w0 hw0 => ?_⟩
   ·obtain ⟨vv, q1, q2, q3⟩ := hcell j x e1
    have := v2 j v (by simpa using e2)
    rw [q1] at this; cases this
    exact ⟨q2, q3⟩
   ·have := run_loadCells_list (P := P) w0 ⟨c, o, none⟩ vs (fun j v e => by rw [aa4, hw0.cell]; exact v2 j v e)
    rw [v1] at this
    simp [Builtin.firstCells, this]
theorem sees_sound (h : StR w g tmps st) {wd : Nat} {x : V} {v : Value} (hv : VR g x v) {xs : List V} (hx : az2 st.h wd x = some xs) {T2 : Nat} (ht : isSl P T2 = true) :
  ∃ n new, nsl x = some n ∧ xs.length = n * wd ∧ Plain g xs new ∧ Adds P w T2 wd n v new := by
 unfold az2 at hx
 split at hx
 ·cases hv
  cases hx
  exact ⟨0, #[], rfl, by simp, ⟨by simp, fun j x v e => by simp at e⟩, ht, by simp [Builtin.lenOf], fun w0 _ => by simp [Builtin.firstCells]⟩
 ·cases hv
  cases hx
  exact ⟨0, #[], rfl, by simp, ⟨by simp, fun j x v e => by simp at e⟩, ht, by simp [Builtin.lenOf], fun w0 _ => by simp [Builtin.firstCells, loadCells, loadCellsFrom]⟩
 ·rename_i rows
  split at hx
  ·rename_i hw
   cases hx
   have hw : ∀ r, r ∈ rows → r.length = wd := fun r hr => by
    have := List.all_eq_true.1 hw r hr
    simpa using this
   obtain ⟨new, q1, q2, q3⟩ := ts_cells (P := P) h.hr hv hw
   exact ⟨rows.length, new, rfl, ak3 hw, q1, ht, q2, q3⟩
  ·cases hx
 ·rename_i a off wd' len cp
  split at hx
  ·rename_i gr cs e3
   split at hx
   ·rename_i hh
    obtain ⟨rfl, hle⟩ := hh
    cases hx
    have hob := h.hr.ob a
    rw [e3] at hob
    cases hv with
    | sl _ _ _ _ _ cap oo hdm hlc hoo hcp =>
    obtain ⟨new, o1, o2⟩ := ao8 (P := P) (cap := cap) hob hle (fun hl => hoo (by omega))
    exact ⟨len, new, rfl, ae8 _ _ _ hle, o1, ht, by simp [Builtin.lenOf], o2⟩
   ·cases hx
  ·cases hx
 ·cases hx
theorem run_app {o : Oper} {a b : Operand} {T T2 : Nat} (ho : o.op = .call { callee := .builtin .append, args := #[a, b], argTypes := #[T, T2] }) (v : Value) (w' : World)
  (hr : (Builtin.append_ #[T, T2] o.type #[Act.eval { tmps, defers := ds } a, Act.eval { tmps, defers := ds } b]).run P w = .ok v w') : (execOp (Act.eval { tmps, defers := ds }) o).run P w = .ok (.value v) w' := by
 simp only [execOp, ho, resolve, invoke, builtin]
 simp [hr]
theorem done_app (h : StR w g tmps st) {o : Oper} {d k rb T T2 wd bytes : Nat} {a b : Operand} {s x : AO} (hd : o.dst = some d) (hlt : d < tmps.size) (hf : Fr g st.nx rb (.app d k s x wd bytes)) (ho : o.op = .call { callee := .builtin .append, args := #[a, b], argTypes := #[T, T2] })
  (ha : opd a s = true) (hb : opd b x = true) (hT : appT P T wd bytes = true) (h2 : isSl P T2 = true) (hx : q9 rb st (.app d k s x wd bytes) = some st') :
  be3 P w g o { tmps, defers := ds } st st' (NewD rb (.app d k s x wd bytes)) := by
 simp only [q9] at hx
 have hs := e9 (ds := ds) h.sl ha
 have hv := e9 (ds := ds) h.sl hb
 split at hx
 ·rename_i xs n e1 e2
  obtain ⟨n', new, q1, q2, q3, q4⟩ := sees_sound (P := P) h hv e1 h2
  rw [e2] at q1; cases q1
  exact done_appE h rfl hd hlt hf hs q3 q2 (AppOk.of hT q4) (fun v w' hr => run_app ho v w' hr) hx
 ·cases hx
theorem done_apz (h : StR w g tmps st) {o : Oper} {d k rb T T2 el wd bytes : Nat} {a b : Operand} {s x : AO} {zero : List V} (hd : o.dst = some d) (hlt : d < tmps.size) (hf : Fr g st.nx rb (.apz d k s x wd bytes zero)) (ho : o.op = .call { callee := .builtin .append, args := #[a, b], argTypes := #[T, T2] })
  (ha : opd a s = true) (hb : opd b x = true) (hT : appT P T wd bytes = true) (h2 : bg7 P T2 = true) (hu : P.underlying T = some (.slice el)) (hz : ad9 P el zero = true) (hx : q9 rb st (.apz d k s x wd bytes zero) = some st') :
  be3 P w g o { tmps, defers := ds } st st' (NewD rb (.apz d k s x wd bytes zero)) := by
 simp only [q9] at hx
 have hs := e9 (ds := ds) h.sl ha
 have hv := e9 (ds := ds) h.sl hb
 split at hx
 ·rename_i kk n e1
  split at hx
  ·rename_i hh
   obtain ⟨h0, h1, hl, hbb⟩ := hh
   have hn := ay5 (e1 ▸ hv)
   obtain ⟨z, z1, z2⟩ := aa3 (g := g) hz
   have hzs : z.cells.size = wd := by rw [z2.1]; exact hl
   have hp := ak9 z2 hl n.toNat
   refine done_appE h rfl hd hlt hf hs hp (rep_len hl _) (xv := .int kk n) (T := T) (T2 := T2) ⟨fun base sLen sCap w' hle hst => append_room_z hT h2 hu z1 hzs h0 h1 hbb hle hst, fun base sLen sCap old hold hgt hroom => append_grow_z hT h2 hu z1 hzs h0 h1 hbb hold hgt hroom⟩ (fun v w' hr => ?_) hx
   refine run_app ho v w' ?_
   rw [hn]; exact hr
  ·cases hx
 ·cases hx
theorem done_cpy (h : StR w g tmps st) {o : Oper} {d rb T T2 el wd : Nat} {a b : Operand} {s x : AO} (hd : o.dst = some d) (hlt : d < tmps.size) (ho : o.op = .call { callee := .builtin .copy, args := #[a, b], argTypes := #[T, T2] })
  (ha : opd a s = true) (hb : opd b x = true) (hu : P.underlying T = some (.slice el)) (hs : szT P el = some wd) (hx : q9 rb st (.cpy d s x wd) = some st') (D : Nat → Prop) :
  be3 P w g o { tmps, defers := ds } st st' D := by
 simp only [q9] at hx
 have hv1 := e9 (ds := ds) h.sl ha
 have hv2 := e9 (ds := ds) h.sl hb
 generalize he1 : Act.eval { tmps, defers := ds } a = va at hv1
 generalize he2 : Act.eval { tmps, defers := ds } b = vb at hv2
 split at hx
 ·rename_i aa off wa la cp ab ob wb lb cb e1 e2
  rw [e1] at hv1; rw [e2] at hv2
  split at hx
  ·rename_i xs gr cs e3 e4
   split at hx
   ·rename_i hh
    obtain ⟨rfl, hle⟩ := hh
    cases hx
    simp only [az2] at e3
    split at e3
    ·rename_i gr2 cs2 e5
     split at e3
     ·rename_i hh2
      obtain ⟨rfl, hle2⟩ := hh2
      cases e3
      have hob1 := h.hr.ob aa
      rw [e4] at hob1
      have hob2 := h.hr.ob ab
      rw [e5] at hob2
      obtain ⟨arr, Ty, f1, f2, f3, f4⟩ := hob1.block
      cases hv1 with
      | sl _ _ _ _ _ cap oo hdm hlc hoo hcp =>
      cases hv2 with
      | sl _ _ _ _ _ cap2 oo2 hdm2 hlc2 hoo2 hcp2 =>
      have hmin : min la lb * wd ≤ lb * wd := Nat.mul_le_mul_right wd (Nat.min_le_right _ _)
      have hmin1 : min la lb * wd ≤ la * wd := Nat.mul_le_mul_right wd (Nat.min_le_left _ _)
      obtain ⟨new, o1, o2⟩ := ao8 (P := P) (wd := wd) (len := min la lb) (cap := cap2) hob2 (by omega) (fun hl => hoo2 (by omega))
      have hxs : ((cs2.drop ob).take (lb * wd)).take (min la lb * wd) = (cs2.drop ob).take (min la lb * wd) := by rw [List.take_take, Nat.min_eq_left hmin]
      have hnl : ((cs2.drop ob).take (min la lb * wd)).length = min la lb * wd := ae8 _ _ _ (by omega)
      have hrun : ∀ w', (storeCells ⟨g.be aa, oo, none⟩ new.toList).run P w = .ok () w' → (execOp (Act.eval { tmps, defers := ds }) o).run P w = .ok (.value (goInt (min la lb : Nat))) w' := by
       intro w' hst
       have hfc := o2 w (WEq.refl w)
       have hm : Nat.min lb la = min la lb := Nat.min_comm _ _
       have hfc' : (Builtin.firstCells wd (min la lb) (.slice (some ⟨g.be ab, oo2, none⟩) lb cap2)).run P w = .ok new w := by
        simpa [Builtin.firstCells] using hfc
       simp only [execOp, ho, resolve, invoke, builtin, Builtin.copy_]
       simp [he1, he2, f0 hu, t7 hs, Builtin.lenOf, hfc', hst, hm]
      by_cases hz : min la lb = 0
      ·have hnew : new.toList = [] := List.length_eq_zero_iff.1 (by have := o1.1; rw [hnl, hz] at this; simpa using this)
       have : (st.chg aa (.c gr (putAt cs off (((cs2.drop ob).take (lb * wd)).take (min la lb * wd))))) = st := by
        rw [hz]
        simp only [Nat.zero_mul, List.take_zero, putAt, St.chg]
        have : upd st.h aa (.c gr cs) = st.h := by
         funext k
         simp only [upd]
         split
         ·rename_i e; rw [e, e4]
         ·rfl
        rw [this]
       rw [this]
       refine ⟨_, _, w, g, hrun w (by rw [hnew]; rfl), .inl rfl, ⟨?_, h.hr⟩, Stp.refl _ _ _ _⟩
       rw [hd]; exact h.sl.put hlt (.i _ _)
      ·have e0 := hoo (by omega)
       subst e0
       have hvl : new.toList.length = min la lb * wd := by have := o1.1; simp; omega
       have hst := run_storeCells_at P (g.be aa) (off + (g.cz aa).2) Ty new.toList 0 arr w f1 (by rw [hvl]; omega) (al3 o1)
       simp only [Nat.add_zero] at hst
       rw [hxs]
       exact as6 h (live_c e4) hd hlt (hrun _ hst) (Wr.row _ _ _) (hob1.write f1 o1 (by rw [hnl]; omega)) (.i _ _) D
     ·cases e3
    ·cases e3
   ·cases hx
  ·cases hx
 ·cases hx
def EntsR (g : G) (es : List (V × V × Nat)) (ents : Array MapEntry) : Prop :=
 ents.size = es.length ∧ ∀ (k : Nat) (x : V × V × Nat) (e : MapEntry), es[k]? = some x → ents[k]? = some e → VR g x.1 e.key ∧ VR g x.2.1 e.val ∧ e.born = x.2.2
theorem EntsR.push {es : List (V × V × Nat)} {ents : Array MapEntry} (h : EntsR g es ents) {x : V × V × Nat} {e : MapEntry} (hk : VR g x.1 e.key) (hv : VR g x.2.1 e.val) (hb : e.born = x.2.2) : EntsR g (es ++ [x]) (ents.push e) := by
 refine ⟨by simp [h.1], fun k y e' q1 q2 => ?_⟩
 rw [Array.getElem?_push] at q2
 rcases Nat.lt_or_ge k es.length with hlt | hge
 ·rw [List.getElem?_append_left hlt] at q1
  rw [if_neg (by rw [h.1]; omega)] at q2
  exact h.2 k y e' q1 q2
 ·have hke : k = es.length := by
   have := ai4 q1; simp at this; omega
  subst hke
  rw [if_pos h.1.symm] at q2
  simp at q1 q2
  subst q1 q2
  exact ⟨hk, hv, hb⟩
theorem EntsR.set {es : List (V × V × Nat)} {ents : Array MapEntry} (h : EntsR g es ents) {n : Nat} {x : V × V × Nat} {e0 : MapEntry} {f : MapEntry → MapEntry} (he : ents[n]? = some e0) (hk : VR g x.1 (f e0).key) (hv : VR g x.2.1 (f e0).val) (hb : (f e0).born = x.2.2) : EntsR g (es.set n x) (ents.modify n f) := by
 refine ⟨by simp [h.1], fun k y e' q1 q2 => ?_⟩
 rw [Array.getElem?_modify] at q2
 by_cases hkn : n = k
 ·subst hkn
  have hlt : n < es.length := by rw [← h.1]; exact (Array.getElem?_eq_some_iff.1 he).1
  rw [List.getElem?_set_self hlt] at q1
  rw [if_pos rfl, he] at q2
  simp at q1 q2
  subst q1 q2
  exact ⟨hk, hv, hb⟩
 ·rw [List.getElem?_set_ne hkn] at q1
  rw [if_neg hkn] at q2
  exact h.2 k y e' q1 q2
theorem Wr.obj (w : World) (r : Nat) (o : Obj) : Wr w { w with heap := w.heap.setIfInBounds r o } r :=
 ⟨by simp, fun d hd => by simp [Ne.symm hd], rfl, rfl⟩
theorem ah8 {r : Nat} {ents : Array MapEntry} {clock : Nat} (o : Obj) (h : w.heap[r]? = some (.map ents clock)) : (setObj r o).run P w = .ok () { w with heap := w.heap.setIfInBounds r o } := by
 simp [setObj, Sem.run, h]
theorem obj_at {r : Nat} {o o' : Obj} (h : w.heap[r]? = some o') : ({ w with heap := w.heap.setIfInBounds r o } : World).heap[r]? = some o := by
 have hlt : r < w.heap.size := (Array.getElem?_eq_some_iff.1 h).1
 simp [hlt]
theorem live_m {a : Nat} {es : List (V × V × Nat)} {c : Nat} {H : Hp} (h : H a = .m es c) : (H a).live = true := by rw [h]; rfl
theorem mapKey_spec {T : Nat} {kt : KT} (h : mapKey P T kt = true) : ∃ k el, P.underlying T = some (.map k el) ∧ ap7 P kt k = true := by
 unfold mapKey at h
 split at h
 ·exact ⟨_, _, by assumption, h⟩
 ·cases h
theorem done_mst (h : StR w g tmps st) {o : Oper} {T rb : Nat} {a b c : Operand} {m k v : AO} {kt : KT} (hd : o.dst = none) (ho : o.op = .mapUpdate T a b c) (ha : opd a m = true) (hb : opd b k = true) (hc : opd c v = true)
  (ht : mapKey P T kt = true) (hx : q9 rb st (.mst m k v kt) = some st') (D : Nat → Prop) : be3 P w g o { tmps, defers := ds } st st' D := by
 obtain ⟨kT, el, hT, hkk⟩ := mapKey_spec ht
 simp only [q9] at hx
 have hm := e9 (ds := ds) h.sl ha
 have hkv := e9 (ds := ds) h.sl hb
 have hvv := e9 (ds := ds) h.sl hc
 generalize hva : Act.eval { tmps, defers := ds } a = va at hm
 generalize hvb : Act.eval { tmps, defers := ds } b = vb at hkv
 generalize hvc : Act.eval { tmps, defers := ds } c = vc at hvv
 split at hx
 ·rename_i ad e1
  rw [e1] at hm
  split at hx
  ·rename_i es clock e4
   have hob := h.hr.ob ad
   rw [e4] at hob
   obtain ⟨ents, b1, b2⟩ := hob
   have b2 : EntsR g es ents := b2
   cases hm with
   | m _ hdm =>
   split at hx
   ·rename_i hk
    obtain ⟨f2, fk⟩ := key_run (P := P) (w := w) hkk hk hkv
    split at hx
    ·rename_i n hmi
     obtain ⟨e', g1, g2, g3⟩ := an2 (P := P) (w := w) hkk hk hkv b2.1 (fun j x e q1 q2 => (b2.2 j x e q1 q2).1) hmi
     split at hx
     ·rename_i k0 v0 bn hes
      cases hx
      have hbn := (b2.2 n _ e' hes g1).2.2
      refine as7 h (live_m e4) hd (r := .skip) (.inl rfl) ?_ (Wr.obj w (g.be ad) (.map (ents.modify n fun e => { e with key := vb, val := vc }) clock)) ?_ D
      ·have hkey : (ents[n]?).map (·.key) = some e'.key := by rw [g1]; rfl
       simp [execOp, ho, hva, hvb, hvc, Instr.mapUpdate, f0 hT, ad4 b1, f2, g2, Result.andThen, g1, g3, ah8 _ b1]
      ·exact ⟨_, obj_at b1, b2.set (f := fun e => { e with key := vb, val := vc }) g1 hkv hvv hbn⟩
     ·cases hx
    ·rename_i hmi
     have g2 := an2 (P := P) (w := w) hkk hk hkv b2.1 (fun j x e q1 q2 => (b2.2 j x e q1 q2).1) hmi
     simp only at g2
     cases hx
     refine as7 h (live_m e4) hd (r := .skip) (.inl rfl) ?_ (Wr.obj w (g.be ad) (.map (ents.push { key := vb, val := vc, born := clock }) (clock + 1))) ?_ D
     ·simp [execOp, ho, hva, hvb, hvc, Instr.mapUpdate, f0 hT, ad4 b1, f2, g2, Result.andThen, ah8 _ b1]
     ·exact ⟨_, obj_at b1, b2.push hkv hvv rfl⟩
    ·cases hx
   ·cases hx
  ·cases hx
 ·cases hx
theorem done_men (h : StR w g tmps st) {o : Oper} {d T rb : Nat} {a b : Operand} {m k : AO} {kt : KT} {zero : List V} {agg : Bool} (hd : o.dst = some d) (hlt : d < tmps.size) (ho : o.op = .mapEntry T a b) (ha : opd a m = true) (hb : opd b k = true)
  (ht : mapIs P T kt zero agg = true) (hx : q9 rb st (.men d m k kt zero agg) = some st') (D : Nat → Prop) : be3 P w g o { tmps, defers := ds } st st' D := by
 unfold mapIs at ht
 split at ht
 ·rename_i kT el hT
  simp only [Bool.and_eq_true] at ht
  obtain ⟨⟨hkk, t2⟩, t3⟩ := ht
  simp only [q9] at hx
  have hm := e9 (ds := ds) h.sl ha
  have hkv := e9 (ds := ds) h.sl hb
  generalize hva : Act.eval { tmps, defers := ds } a = va at hm
  generalize hvb : Act.eval { tmps, defers := ds } b = vb at hkv
  have tup : ∀ (x : V) (u : Value) (n : Nat), VR g x u → VR g (.tu [x, .i .i64 n]) (.tuple #[u, goInt n]) := by
   intro x u n hu
   refine .tu _ _ rfl (fun j y v e1 e2 => ?_)
   match j with
   | 0 => simp at e1 e2; subst e1 e2; exact hu
   | 1 => simp at e1 e2; subst e1 e2; exact .i _ _
   | j + 2 => simp at e1
  split at hx
  ·rename_i ad z e1 ez
   obtain ⟨zu, z1, z2⟩ := zero_val (g := g) t2 t3 ez
   rw [e1] at hm
   split at hx
   ·rename_i es clock e4
    have hob := h.hr.ob ad
    rw [e4] at hob
    obtain ⟨ents, b1, b2⟩ := hob
    have b2 : EntsR g es ents := b2
    cases hm with
    | m _ hdm =>
    split at hx
    ·rename_i hk
     obtain ⟨f2, fk⟩ := key_run (P := P) (w := w) hkk hk hkv
     split at hx
     ·rename_i n hmi
      obtain ⟨e', g1, g2, g3⟩ := an2 (P := P) (w := w) hkk hk hkv b2.1 (fun j x e q1 q2 => (b2.2 j x e q1 q2).1) hmi
      split at hx
      ·rename_i k0 v0 bn hes
       cases hx
       obtain ⟨r1, r2, hbn⟩ := b2.2 n _ e' hes g1
       refine as6 h (live_m e4) hd hlt (v := .tuple #[e'.val, goInt bn]) ?_ (Wr.obj w (g.be ad) (.map (ents.modify n fun e => { e with key := vb }) clock)) ?_ (tup _ _ _ r2) D
       ·simp only at hbn
        simp [execOp, ho, hva, hvb, Instr.mapEntry, f0 hT, ad4 b1, f2, g2, Result.andThen, g1, g3, ah8 _ b1, hbn]
       ·exact ⟨_, obj_at b1, b2.set (f := fun e => { e with key := vb }) g1 hkv r2 hbn⟩
      ·cases hx
     ·rename_i hmi
      have g2 := an2 (P := P) (w := w) hkk hk hkv b2.1 (fun j x e q1 q2 => (b2.2 j x e q1 q2).1) hmi
      simp only at g2
      cases hx
      refine as6 h (live_m e4) hd hlt (v := .tuple #[zu, goInt clock]) ?_ (Wr.obj w (g.be ad) (.map (ents.push { key := vb, val := zu, born := clock }) (clock + 1))) ?_ (tup _ _ _ z2) D
      ·simp [execOp, ho, hva, hvb, Instr.mapEntry, f0 hT, ad4 b1, f2, g2, Result.andThen, ah8 _ b1, z1]
      ·exact ⟨_, obj_at b1, b2.push hkv z2 rfl⟩
     ·cases hx
    ·cases hx
   ·cases hx
  ·cases hx
 ·cases ht
theorem bidx_find {es : List (V × V × Nat)} {ents : List MapEntry} (b : Int) : ∀ (k n : Nat), ents.length = es.length → (∀ (j : Nat) (x : V × V × Nat) (e : MapEntry), es[j]? = some x → ents[j]? = some e → e.born = x.2.2) → bidx b es k = some n → ents.findIdx? (fun e => (e.born : Int) == b) = some (n - k) ∧ k ≤ n := by
 induction es generalizing ents with
 | nil => intro k n _ _ h; simp [bidx] at h
 | cons x es ih =>
   intro k n hl hr h
   obtain ⟨a, v, q⟩ := x
   cases ents with
   | nil => simp at hl
   | cons e ents =>
     have hb := hr 0 (a, v, q) e rfl rfl
     simp only [bidx] at h
     simp only [List.findIdx?_cons]
     split at h
     ·rename_i hq
      cases h
      have : ((e.born : Int) == b) = true := by simp only [hb]; simpa using hq
      simp [this]
     ·rename_i hq
      have : ((e.born : Int) == b) = false := by simp only [hb]; simpa using hq
      obtain ⟨i1, i2⟩ := ih (ents := ents) (k + 1) n (by simpa using hl) (fun j x e' e1 e2 => hr (j + 1) x e' (by simpa using e1) (by simpa using e2)) h
      rw [this]
      simp only [Bool.false_eq_true, if_false, i1, Option.map_some, Option.some.injEq]
      omega
theorem done_ens (h : StR w g tmps st) {o : Oper} {T rb : Nat} {a b c : Operand} {m s v : AO} (hd : o.dst = none) (ho : o.op = .entryStore T a b c) (ha : opd a m = true) (hb : opd b s = true) (hc : opd c v = true)
  (hx : q9 rb st (.ens m s v) = some st') (D : Nat → Prop) : be3 P w g o { tmps, defers := ds } st st' D := by
 simp only [q9] at hx
 have hm := e9 (ds := ds) h.sl ha
 have hkv := e9 (ds := ds) h.sl hb
 have hvv := e9 (ds := ds) h.sl hc
 generalize hva : Act.eval { tmps, defers := ds } a = va at hm
 generalize hvb : Act.eval { tmps, defers := ds } b = vb at hkv
 generalize hvc : Act.eval { tmps, defers := ds } c = vc at hvv
 split at hx
 ·rename_i ad kk bn e1 e2
  rw [e1] at hm
  have hn := ay5 (e2 ▸ hkv)
  subst hn
  split at hx
  ·rename_i es clock e4
   have hob := h.hr.ob ad
   rw [e4] at hob
   obtain ⟨ents, b1, b2⟩ := hob
   have b2 : EntsR g es ents := b2
   cases hm with
   | m _ hdm =>
   split at hx
   ·rename_i n hbi
    obtain ⟨i1, _⟩ := bidx_find (ents := ents.toList) bn 0 n (by simpa using b2.1) (fun j x e q1 q2 => (b2.2 j x e q1 (by simpa using q2)).2.2) hbi
    split at hx
    ·rename_i k0 v0 q hes
     cases hx
     have hlt : n < ents.size := by rw [b2.1]; exact ai4 hes
     have g1 : ents[n]? = some ents[n] := by simp [hlt]
     obtain ⟨r1, r2, hbn⟩ := b2.2 n _ _ hes g1
     refine as7 h (live_m e4) hd (r := .skip) (.inl rfl) ?_ (Wr.obj w (g.be ad) (.map (ents.modify n fun e => { e with val := vc }) clock)) ?_ D
     ·have i2 : ents.findIdx? (fun e => (e.born : Int) == bn) = some n := by
       cases ents; simpa using i1
      simp [execOp, ho, hva, hvb, hvc, Instr.entryStore, ad4 b1, asInt, asIntOf, i2, Result.andThen, ah8 _ b1]
     ·exact ⟨_, obj_at b1, b2.set (f := fun e => { e with val := vc }) g1 r1 hvv hbn⟩
    ·cases hx
   ·cases hx
  ·cases hx
 ·cases hx
def elT (P : Program) (T : Nat) : Option Nat := match P.underlying T with | some (.slice e) => some e | _ => none
theorem ax6 {T el : Nat} (h : elT P T = some el) : P.underlying T = some (.slice el) := by
 unfold elT at h
 split at h
 ·cases h; assumption
 ·cases h
def chk1 (P : Program) (nt : Nat) (o : Oper) (op : AOp) : Bool :=
 (match op.dst with | some d => o.dst == some d && decide (d < nt) | none => o.dst.isNone) &&
 (match op with
 | .set _ x => chkX P o.op x
 | .new _ _ zero => (match o.op with | .alloc T => ad9 P T zero | _ => false)
 | .box _ _ x => (match o.op with | .box _ a => opd a x | _ => false)
 | .bsl _ _ wd xs => (match o.op with | .buildSlice T n parts => bslOk P T n wd xs.length && aj2 0 parts.toList xs | _ => false)
 | .mks _ _ n c wd bytes zero => (match o.op with
   | .makeSlice T a b => opd a n && opd b c && (match elT P T with | some el => szT P el == some wd && bd4 P el == some bytes && ad9 P el zero | none => false)
   | _ => false)
 | .mkm _ _ => (match o.op with | .makeMap _ none => true | _ => false)
 | .stp xa n x => (match o.op with | .store T a b => opd a xa && szT P T == some n && opd b x | _ => false)
 | .app _ _ s x wd bytes => (match o.op with
   | .call { callee := .builtin .append, args := ⟨[a, b]⟩, argTypes := ⟨[T, T2]⟩ } => opd a s && opd b x && appT P T wd bytes && isSl P T2
   | _ => false)
 | .apz _ _ s x wd bytes zero => (match o.op with
   | .call { callee := .builtin .append, args := ⟨[a, b]⟩, argTypes := ⟨[T, T2]⟩ } => opd a s && opd b x && appT P T wd bytes && bg7 P T2 && (match elT P T with | some el => ad9 P el zero | none => false)
   | _ => false)
 | .cpy _ s x wd => (match o.op with
   | .call { callee := .builtin .copy, args := ⟨[a, b]⟩, argTypes := ⟨[T, T2]⟩ } => opd a s && opd b x && (match elT P T with | some el => szT P el == some wd | none => false)
   | _ => false)
 | .clr x wd zero => (match o.op with
   | .call { callee := .builtin .clear, args := ⟨[a]⟩, argTypes := ⟨[T]⟩ } => opd a x && (match elT P T with | some el => ad9 P el zero | none => false)
   | _ => false)
 | .mst m k v kt => (match o.op with | .mapUpdate T a b c => opd a m && opd b k && opd c v && mapKey P T kt | _ => false)
 | .men _ m k kt zero agg => (match o.op with | .mapEntry T a b => opd a m && opd b k && mapIs P T kt zero agg | _ => false)
 | .ens m s v => (match o.op with | .entryStore _ a b c => opd a m && opd b s && opd c v | _ => false)
 | _ => false)
theorem chk1_dst {nt : Nat} {o : Oper} {op : AOp} (h : chk1 P nt o op = true) : o.dst = op.dst ∧ ∀ d, op.dst = some d → d < nt := by
 simp only [chk1, Bool.and_eq_true] at h
 obtain ⟨h1, _⟩ := h
 split at h1
 ·rename_i d hd
  simp only [Bool.and_eq_true, beq_iff_eq, decide_eq_true_eq] at h1
  exact ⟨by rw [h1.1, hd], fun d' e => by rw [hd] at e; cases e; exact h1.2⟩
 ·rename_i hd
  exact ⟨by rw [hd]; simpa using h1, fun d' e => by rw [hd] at e; cases e⟩
theorem exop_done (h : StR w g tmps st) {o : Oper} {op : AOp} {rb nt : Nat} (hn : tmps.size = nt) (hc : chk1 P nt o op = true) (hf : Fr g st.nx rb op) (hx : q9 rb st op = some st') :
  be3 P w g o { tmps, defers := ds } st st' (NewD rb op) := by
 obtain ⟨hdst, hlt⟩ := chk1_dst hc
 rw [← hn] at hlt
 simp only [chk1, Bool.and_eq_true] at hc
 replace hc := hc.2
 cases op <;> simp only at hc <;> simp only [AOp.dst] at hdst hlt
 case set d x =>
  simp only [q9] at hx
  cases he : evX st.sl st.h x with
  | none => rw [he] at hx; cases hx
  | some e => rw [he] at hx; cases hx; exact done_set h hdst (hlt d rfl) hc he _
 case new d k zero =>
  split at hc
  ·exact done_new h hdst (hlt d rfl) hf (by assumption) hc hx
  ·cases hc
 case box d k x =>
  split at hc
  ·exact done_box h hdst (hlt d rfl) hf (by assumption) hc hx
  ·cases hc
 case bsl d k wd xs =>
  split at hc
  ·simp only [Bool.and_eq_true] at hc
   exact done_bsl h hdst (hlt d rfl) hf (by assumption) hc.1 hc.2 hx
  ·cases hc
 case mks d k n c wd bytes zero =>
  split at hc
  ·simp only [Bool.and_eq_true] at hc
   obtain ⟨⟨c1, c2⟩, c3⟩ := hc
   split at c3
   ·rename_i el hel
    simp only [Bool.and_eq_true, beq_iff_eq] at c3
    exact done_mks h hdst (hlt d rfl) hf (by assumption) c1 c2 (ax6 hel) c3.1.1 c3.1.2 c3.2 hx
   ·cases c3
  ·cases hc
 case mkm d k =>
  split at hc
  ·exact done_mkm (r := none) h hdst (hlt d rfl) hf (by assumption) hx
  ·cases hc
 case stp xa n x =>
  split at hc
  ·simp only [Bool.and_eq_true, beq_iff_eq] at hc
   exact done_stp h hdst (by assumption) hc.1.1 hc.1.2 hc.2 hx _
  ·cases hc
 case app d k s x wd bytes =>
  split at hc
  ·simp only [Bool.and_eq_true] at hc
   exact done_app h hdst (hlt d rfl) hf (by assumption) hc.1.1.1 hc.1.1.2 hc.1.2 hc.2 hx
  ·cases hc
 case apz d k s x wd bytes zero =>
  split at hc
  ·simp only [Bool.and_eq_true] at hc
   obtain ⟨c1, c2⟩ := hc
   split at c2
   ·rename_i el hel
    exact done_apz h hdst (hlt d rfl) hf (by assumption) c1.1.1.1 c1.1.1.2 c1.1.2 c1.2 (ax6 hel) c2 hx
   ·cases c2
  ·cases hc
 case cpy d s x wd =>
  split at hc
  ·simp only [Bool.and_eq_true] at hc
   obtain ⟨c1, c2⟩ := hc
   split at c2
   ·rename_i el hel
    exact done_cpy h hdst (hlt d rfl) (by assumption) c1.1 c1.2 (ax6 hel) (by simpa using c2) hx _
   ·cases c2
  ·cases hc
 case clr x wd zero =>
  split at hc
  ·simp only [Bool.and_eq_true] at hc
   obtain ⟨c1, c2⟩ := hc
   split at c2
   ·rename_i el hel
    exact done_clr h hdst (by assumption) c1 (ax6 hel) c2 hx _
   ·cases c2
  ·cases hc
 case mst m k v kt =>
  split at hc
  ·simp only [Bool.and_eq_true] at hc
   exact done_mst h hdst (by assumption) hc.1.1.1 hc.1.1.2 hc.1.2 hc.2 hx _
  ·cases hc
 case men d m k kt zero agg =>
  split at hc
  ·simp only [Bool.and_eq_true] at hc
   exact done_men h hdst (hlt d rfl) (by assumption) hc.1.1 hc.1.2 hc.2 hx _
  ·cases hc
 case ens m s v =>
  split at hc
  ·simp only [Bool.and_eq_true] at hc
   exact done_ens h hdst (by assumption) hc.1.1 hc.1.2 hc.2 hx _
  ·cases hc
 all_goals cases hc
end
end Go.B
