/-
  Cells are written: stores, clears, copies. Slices and maps made. Program-independent.
-/
import Derived.Test.YtagogibgoknncaaGreatDoorBG
set_option linter.unusedSectionVars false
set_option linter.unusedVariables false
set_option linter.unusedSimpArgs false
namespace Go.B
variable [iok : OkC]
def bd4 (P : Program) (t : TypeId) : Option Nat := (P.info? t).map (·.bytes)
section
variable {P : Program} {w w' : World} {g g' : G} {H H' : Hp} {nx : Nat} {tmps : Array Value} {sl : Nat → V} {st st' : St} {ds : List Deferred}
theorem al3 {cs : List V} {a : Array Value} (h : Plain g cs a) : ∀ u ∈ a.toList, u.oneCell' = true := by
 intro u hu
 obtain ⟨j, hj, rfl⟩ := List.getElem_of_mem hu
 have h1 : j < cs.length := by rw [← h.1]; simpa using hj
 exact (h.2 j cs[j] _ (by simp [h1]) (by simp)).1
theorem OR.write {a off : Nat} {gr : Bool} {cs xs : List V} {vs : Array Value} {arr : Array Value} {T : TypeId} (h : OR w g a (.c gr cs)) (hb : w.heap[g.be a]? = some (.cells arr T (0, 0))) (hp : Plain g xs vs) (hl : off + xs.length ≤ cs.length) :
  OR (w.setRow (g.be a) (arr.toList.take (off + (g.cz a).2) ++ vs.toList ++ arr.toList.drop (off + (g.cz a).2 + vs.toList.length)).toArray) g a (.c gr (putAt cs off xs)) := by
 obtain ⟨arr2, T2, q1, q2, q3, q4, q5⟩ := h
 rw [hb] at q1; cases q1
 have hvl : vs.toList.length = xs.length := by simpa using hp.1
 have hfit : off + (g.cz a).2 + vs.toList.length ≤ arr.size := by rw [hvl]; omega
 generalize harr : (arr.toList.take (off + (g.cz a).2) ++ vs.toList ++ arr.toList.drop (off + (g.cz a).2 + vs.toList.length)).toArray = arr'
 have hget : ∀ j, arr'[j]? = if off + (g.cz a).2 ≤ j ∧ j < off + (g.cz a).2 + xs.length then vs.toList[j - (off + (g.cz a).2)]? else arr[j]? := by
  intro j; rw [← harr, bf3 arr _ _ j hfit, hvl]
 have hsz : arr'.size = arr.size := by rw [← harr]; exact ay8 _ _ _ hfit
 refine ⟨arr', T, setRow_heap w _ arr arr' T _ hb, by rw [hsz, q2], by rw [al2]; exact q3, fun e => by rw [al2]; exact q4 e, fun j x e => ?_⟩
 rw [ba1 _ _ _ _ hl] at e
 rw [hget]
 by_cases hj : off ≤ j ∧ j < off + xs.length
 ·rw [if_pos hj] at e
  rw [if_pos (by omega), show j + (g.cz a).2 - (off + (g.cz a).2) = j - off by omega]
  have hjl : j - off < vs.toList.length := by rw [hvl]; omega
  have ev : vs[j - off]? = some vs.toList[j - off] := by rw [← Array.getElem?_toList]; exact List.getElem?_eq_getElem hjl
  obtain ⟨k1, k2⟩ := hp.2 (j - off) x _ e ev
  exact ⟨_, List.getElem?_eq_getElem hjl, k1, k2⟩
 ·rw [if_neg hj] at e
  rw [if_neg (by omega)]
  exact q5 j x e
theorem OR.block {a : Nat} {gr : Bool} {cs : List V} (h : OR w g a (.c gr cs)) : ∃ arr T, w.heap[g.be a]? = some (.cells arr T (0, 0)) ∧ arr.size = (g.cz a).1 + (g.cz a).2 ∧ cs.length ≤ (g.cz a).1 ∧ (gr = false → cs.length = (g.cz a).1) := by
 obtain ⟨arr, T, q1, q2, q3, q4, _⟩ := h
 exact ⟨arr, T, q1, q2, q3, q4⟩
theorem as7 (h : StR w g tmps st) {o : Oper} {a : Nat} {oo : O} (ha : (st.h a).live = true) (hd : o.dst = none) {r : Next} (hr : r = .skip ∨ ∃ v, r = .value v) (run : (execOp (Act.eval { tmps, defers := ds }) o).run P w = .ok r w')
  (hw : Wr w w' (g.be a)) (ho : OR w' g a oo) (D : Nat → Prop) : be3 P w g o { tmps, defers := ds } st (st.chg a oo) D := by
 obtain ⟨h1, h2⟩ := h.hr.chg ha hw ho
 rcases hr with rfl | ⟨v, rfl⟩
 ·exact ⟨_, undef, w', g, run, .inr ⟨rfl, rfl⟩, ⟨by rw [hd]; exact h.sl, h1⟩, h2.mono (fun _ e => e.elim)⟩
 ·exact ⟨_, v, w', g, run, .inl rfl, ⟨by rw [hd]; exact h.sl, h1⟩, h2.mono (fun _ e => e.elim)⟩
theorem as6 (h : StR w g tmps st) {o : Oper} {a d : Nat} {oo : O} {x : V} {v : Value} (ha : (st.h a).live = true) (hd : o.dst = some d) (hlt : d < tmps.size) (run : (execOp (Act.eval { tmps, defers := ds }) o).run P w = .ok (.value v) w')
  (hw : Wr w w' (g.be a)) (ho : OR w' g a oo) (hx : VR g x v) (D : Nat → Prop) : be3 P w g o { tmps, defers := ds } st ((st.chg a oo).put d x) D := by
 obtain ⟨h1, h2⟩ := h.hr.chg ha hw ho
 exact ⟨_, v, w', g, run, .inl rfl, ⟨by rw [hd]; exact h.sl.put hlt hx, h1⟩, h2.mono (fun _ e => e.elim)⟩
theorem live_c {a : Nat} {gr : Bool} {cs : List V} {H : Hp} (h : H a = .c gr cs) : (H a).live = true := by rw [h]; rfl
theorem done_stp (h : StR w g tmps st) {o : Oper} {n T rb : Nat} {a b : Operand} {xa x : AO} (hd : o.dst = none) (ho : o.op = .store T a b) (ha : opd a xa = true)
  (hT : szT P T = some n) (hb : opd b x = true) (hx : q9 rb st (.stp xa n x) = some st') (D : Nat → Prop) : be3 P w g o { tmps, defers := ds } st st' D := by
 simp only [q9] at hx
 split at hx
 ·rename_i ad off l e1 e2
  split at hx
  ·rename_i gr cs e3
   split at hx
   ·rename_i hh
    obtain ⟨hl, hle⟩ := hh
    cases hx
    have hp := ab5 (e9 (ds := ds) h.sl hb) e2
    have hptr := e1 ▸ e9 (ds := ds) h.sl ha
    generalize hv : Act.eval { tmps, defers := ds } b = v at hp
    generalize hv2 : Act.eval { tmps, defers := ds } a = va at hptr
    cases hptr with
    | p _ _ hdm =>
    have hob := h.hr.ob ad
    rw [e3] at hob
    obtain ⟨arr, Ty, f1, f2, f3, f4⟩ := hob.block
    have hsz : v.cells.size = n := by rw [hp.1, hl]
    have hrun := storeAt_run (P := P) (w := w) hT hsz f1 (col := off + (g.cz ad).2) (by omega) (al3 hp)
    refine as7 h (live_c e3) hd (.inl rfl) ?_ (Wr.row _ _ _) (hob.write f1 hp (by rw [hl]; exact hle)) D
    simp only [execOp, ho, hv2, hv, Sem.run_bind, hrun, Result.andThen_ok]; rfl
   ·cases hx
  ·cases hx
 ·cases hx
theorem done_mkm (h : StR w g tmps st) {o : Oper} {d k rb T : Nat} {r : Option Operand} (hd : o.dst = some d) (hlt : d < tmps.size) (hf : Fr g st.nx rb (.mkm d k)) (ho : o.op = .makeMap T none) (hx : q9 rb st (.mkm d k) = some st') :
  be3 P w g o { tmps, defers := ds } st st' (NewD rb (.mkm d k)) := by
 obtain ⟨f1, f2⟩ := hf k rfl
 simp only [q9, Option.some.injEq] at hx
 subst hx
 have hv : VR (g.new (rb + k) w.heap.size (0, 0)) (.m (rb + k)) (.map (some w.heap.size)) := by
  have := VR.m (g := g.new (rb + k) w.heap.size (0, 0)) (rb + k) (au1 g _ _ _)
  rwa [ab7] at this
 have hob : OR (w.alloc (.map #[] 0)) (g.new (rb + k) w.heap.size (0, 0)) (rb + k) (.m [] 0) :=
  ⟨#[], by rw [ab7]; exact ae9 _ _, rfl, fun k x e e1 => by simp at e1⟩
 obtain ⟨r, v, w', g', q1, q2, q3, q4⟩ := done_alc (P := P) (o := o) (ds := ds) (oo := .m [] 0) h (WEq.refl w) hd hlt f1 f2 (by simp [execOp, ho, Instr.makeMap, newObj]; rfl) hob rfl hv
 exact ⟨r, v, w', g', q1, q2, q3, q4.mono fun a e => ⟨k, rfl, e⟩⟩
theorem rep_len {zero : List V} {wd : Nat} (hw : zero.length = wd) : ∀ n, (List.replicate n zero).flatten.length = n * wd
 | 0 => by simp
 | n + 1 => by rw [List.replicate_succ, List.flatten_cons, List.length_append, rep_len hw n, hw, Nat.add_mul]; omega
theorem ay0 {zero : List V} {z : Array Value} {wd : Nat} (hz : Plain g zero z) (hw : zero.length = wd) (n : Nat) {arr : Array Value} (hs : arr.size = n * wd) (hg : ∀ j, j < n * wd → arr[j]? = z[j % wd]?) :
  Plain g (List.replicate n zero).flatten arr := by
 have hlen := rep_len hw
 have hget : ∀ (n j : Nat), j < n * wd → (List.replicate n zero).flatten[j]? = zero[j % wd]? := by
  intro n
  induction n with
  | zero => intro j hj; simp at hj
  | succ n ih =>
    intro j hj
    rw [List.replicate_succ, List.flatten_cons]
    have hpos : 0 < wd := by
     rcases Nat.eq_zero_or_pos wd with h | h
     ·rw [h] at hj; simp at hj
     ·exact h
    by_cases hjw : j < wd
    ·rw [List.getElem?_append_left (by omega), Nat.mod_eq_of_lt hjw]
    ·rw [List.getElem?_append_right (by omega), hw, ih (j - wd) (by rw [Nat.add_mul] at hj; omega), ← Nat.mod_eq_sub_mod (by omega)]
 refine ⟨by rw [hs, hlen], fun j x v e1 e2 => ?_⟩
 have hj : j < n * wd := by have := ai4 e1; rwa [hlen] at this
 rw [hget n j hj] at e1
 rw [hg j hj] at e2
 exact hz.2 _ x v e1 e2
theorem ba0 (z : Array Value) (n wd : Nat) (hz : z.size = wd) : ((Array.range (n * wd)).map fun i => z[i % z.size]!).size = n * wd ∧ ∀ j, j < n * wd → ((Array.range (n * wd)).map fun i => z[i % z.size]!)[j]? = z[j % wd]? := by
 refine ⟨by simp, fun j hj => ?_⟩
 have hpos : 0 < wd := by
  rcases Nat.eq_zero_or_pos wd with h | h
  ·rw [h] at hj; simp at hj
  ·exact h
 rw [Array.getElem?_map, Array.getElem?_range, if_pos hj]
 have : j % wd < z.size := by rw [hz]; exact Nat.mod_lt _ hpos
 simp only [Option.map_some, hz]
 rw [getElem!_pos z _ this, Array.getElem?_eq_getElem this]
theorem am4 {k : Int} (h0 : 0 ≤ k) (h1 : k ≤ 1073741824) : IntKind.i64.wrap k = k := by
 simp [IntKind.wrap, IntKind.bits, IntKind.signed]
 omega
theorem run_makeSlice {T el wd bytes : Nat} {kk kk2 : IntKind} {k c : Int} {z : Value} (hu : P.underlying T = some (.slice el)) (hs : szT P el = some wd) (hb : bd4 P el = some bytes) (hz : ∀ w : World, (zeroValue el).run P w = .ok z w)
  (h0 : 0 ≤ k) (hkc : k ≤ c) (h1 : bytes * c ≤ 281474976710656) (h2 : c ≤ 1073741824) :
  (Instr.makeSlice T (.int kk k) (.int kk2 c)).run P w = .ok (.slice (some ⟨w.heap.size, 0, none⟩) k.toNat c.toNat) (w.alloc (.cells ((Array.range (c.toNat * wd)).map fun i => (if c.toNat * wd = 0 then #[] else z.cells)[i % (if c.toNat * wd = 0 then #[] else z.cells).size]!) el (0, 0))) := by
 cases hi : P.info? el with
 | none => simp [bd4, hi] at hb
 | some ti =>
   have hbt : ti.bytes = bytes := by simpa [bd4, hi] using hb
   have hti : (typeInfo el).run P w = .ok ti w := by simp [typeInfo, hi]
   have hneg : ¬ (k < 0) := by omega
   have hneg2 : ¬ (c < 0) := by omega
   have hbig : ¬ ((bytes : Int) * c > 2 ^ 48) := by simpa using h1
   have hcond : ¬ (k > c) := by omega
   simp only [Instr.makeSlice, Sem.run_bind, f0 hu, Result.andThen_ok, asInt, asIntOf, Sem.run_pure, hti, am4 h0 (Int.le_trans hkc h2), am4 (Int.le_trans h0 hkc) h2, hbt]
   have hc : (decide (c < 0) || decide ((bytes : Int) * c > 2 ^ 48) || decide (k < 0) || decide (k > c)) = false := by simp [hneg, hneg2]; omega
   rw [if_neg (by rw [hc]; simp)]
   simp only [Sem.run_bind, run_askRoom, Result.andThen_ok, t7 hs]
   by_cases hn : c.toNat * wd = 0
   ·simp [hn, newRow]
   ·simp [hn, newRow, hz, Result.andThen]
theorem done_mks (h : StR w g tmps st) {o : Oper} {d k rb T el wd bytes : Nat} {a b : Operand} {n c : AO} {zero : List V} (hd : o.dst = some d) (hlt : d < tmps.size) (hf : Fr g st.nx rb (.mks d k n c wd bytes zero)) (ho : o.op = .makeSlice T a b)
  (ha : opd a n = true) (hab : opd b c = true) (hu : P.underlying T = some (.slice el)) (hs : szT P el = some wd) (hb : bd4 P el = some bytes) (hz : ad9 P el zero = true) (hx : q9 rb st (.mks d k n c wd bytes zero) = some st') :
  be3 P w g o { tmps, defers := ds } st st' (NewD rb (.mks d k n c wd bytes zero)) := by
 simp only [q9] at hx
 split at hx
 ·rename_i kk nn kk2 cc e1 e2
  split at hx
  ·rename_i hh
   obtain ⟨h0, hkc, h2, h1, hl⟩ := hh
   cases hx
   have hk := ay5 (e1 ▸ e9 (ds := ds) h.sl ha)
   have hk2 := ay5 (e2 ▸ e9 (ds := ds) h.sl hab)
   obtain ⟨z, z1, z2⟩ := aa3 (g := g) hz
   have hrun := run_makeSlice (P := P) (w := w) (kk := kk) (kk2 := kk2) hu hs hb z1 h0 hkc h1 h2
   have hzs : z.cells.size = wd := by rw [z2.1]; exact hl
   generalize harr : ((Array.range (cc.toNat * wd)).map fun i => (if cc.toNat * wd = 0 then #[] else z.cells)[i % (if cc.toNat * wd = 0 then #[] else z.cells).size]!) = arr at hrun
   have hp : Plain g (List.replicate cc.toNat zero).flatten arr := by
    refine ay0 z2 hl cc.toNat (by rw [← harr]; simp) (fun j hj => ?_)
    have hne : ¬ (cc.toNat * wd = 0) := by omega
    rw [← harr]
    simp only [if_neg hne]
    exact (ba0 z.cells cc.toNat wd hzs).2 j hj
   refine ax7 (rest := #[]) (gr := false) (cap := cc.toNat) h (WEq.refl w) rfl hd hlt hf hp (by rw [← harr]; simp) (by omega) (fun _ => rfl) (T := el) ?_
   simp only [execOp, ho, hk, hk2]; simp only [Sem.run_bind, hrun, Result.andThen_ok, Array.append_empty]; rfl
  ·cases hx
 ·cases hx
theorem ak9 {zero : List V} {z : Array Value} {wd : Nat} (hz : Plain g zero z) (hw : zero.length = wd) (n : Nat) : Plain g (List.replicate n zero).flatten (Builtin.zeroCells z n) := by
 have hzs : z.size = wd := by rw [hz.1]; exact hw
 have := ba0 z n wd hzs
 have e : Builtin.zeroCells z n = (Array.range (n * wd)).map fun i => z[i % z.size]! := by simp [Builtin.zeroCells, hzs]
 rw [← e] at this
 exact ay0 hz hw n this.1 this.2
theorem done_clr (h : StR w g tmps st) {o : Oper} {T el wd rb : Nat} {a : Operand} {x : AO} {zero : List V} (hd : o.dst = none) (ho : o.op = .call { callee := .builtin .clear, args := #[a], argTypes := #[T] }) (ha : opd a x = true)
  (hu : P.underlying T = some (.slice el)) (hz : ad9 P el zero = true) (hx : q9 rb st (.clr x wd zero) = some st') (D : Nat → Prop) :
  be3 P w g o { tmps, defers := ds } st st' D := by
 simp only [q9] at hx
 split at hx
 ·rename_i ad off wd' len cp e1
  split at hx
  ·rename_i gr cs e3
   split at hx
   ·rename_i hh
    obtain ⟨rfl, hl, hle⟩ := hh
    cases hx
    have hv := e1 ▸ e9 (ds := ds) h.sl ha
    generalize hev : Act.eval { tmps, defers := ds } a = v at hv
    cases hv with
    | sl _ _ _ _ _ cap oo hdm hlc hoo hcp =>
    have hob := h.hr.ob ad
    rw [e3] at hob
    obtain ⟨arr, Ty, f1, f2, f3, f4⟩ := hob.block
    obtain ⟨z, z1, z2⟩ := aa3 (g := g) hz
    have hp := ak9 z2 hl len
    by_cases hlen : len = 0
    ·subst hlen
     have : st.chg ad (.c gr (putAt cs off (List.replicate 0 zero).flatten)) = st := by
      simp only [List.replicate_zero, List.flatten_nil, putAt, St.chg]
      have : upd st.h ad (.c gr cs) = st.h := by
       funext k
       simp only [upd]
       split
       ·rename_i e; rw [e, e3]
       ·rfl
      rw [this]
     rw [this]
     refine ⟨.value (.tuple #[]), _, w, g, ?_, .inl rfl, ⟨by rw [hd]; exact h.sl, h.hr⟩, Stp.refl w g _ _⟩
     simp [execOp, ho, hev, resolve, invoke, builtin, Builtin.clear_, f0 hu, Result.andThen]
    ·have e0 := hoo (by omega)
     subst e0
     have hzl := rep_len hl len
     have hvs : (Builtin.zeroCells z.cells len).size = len * wd := by rw [hp.1, hzl]
     have hst := run_storeCells_at P (g.be ad) (off + (g.cz ad).2) Ty (Builtin.zeroCells z.cells len).toList 0 arr w f1 (by simp; omega) (al3 hp)
     simp only [Nat.add_zero] at hst
     refine as7 h (live_c e3) hd (.inr ⟨.tuple #[], rfl⟩) ?_ (Wr.row _ _ _) (hob.write f1 hp (by rw [hzl]; exact hle)) D
     obtain ⟨m, rfl⟩ : ∃ m, len = m + 1 := ⟨len - 1, by omega⟩
     simp [execOp, ho, hev, resolve, invoke, builtin, Builtin.clear_, f0 hu, z1, hst, Result.andThen]
   ·cases hx
  ·cases hx
 ·cases hx
end
end Go.B
