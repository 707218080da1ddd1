/-
  Appends, copies. Program-independent.
-/
import Derived.Test.YtagogibgoknncaaGreatDoorBH
set_option linter.unusedSectionVars false
set_option linter.unusedVariables false
set_option linter.unusedSimpArgs false
namespace Go.B
variable [iok : OkC]
def appT (P : Program) (T wd bytes : Nat) : Bool :=
 match P.underlying T with | some (.slice e) => szT P e == some wd && bd4 P e == some bytes && ((P.info? e).bind (·.zero)).map (·.cells.size) == some wd | _ => false
def isSl (P : Program) (T : Nat) : Bool := match P.underlying T with | some (.slice _) => true | _ => false
def bg7 (P : Program) (T : Nat) : Bool := match P.underlying T with | some (.int _) => true | _ => false
section
variable {P : Program} {w w' : World} {g g' : G} {H H' : Hp} {nx : Nat} {tmps : Array Value} {sl : Nat → V} {st st' : St} {ds : List Deferred}
theorem growBy_le (n : Nat) (hn : 256 ≤ n) : ∀ (k c : Nat), Builtin.growBy n k c ≤ max c (2 * n)
 | 0, c => by simp [Builtin.growBy]; omega
 | k + 1, c => by
   simp only [Builtin.growBy]
   split
   ·omega
   ·have := growBy_le n hn k (c + (c + 768) / 4); omega
theorem bg4 (n c : Nat) (h : c < n) : Builtin.nextslicecap n c ≤ 2 * n := by
 unfold Builtin.nextslicecap
 split
 ·omega
 ·split
  ·omega
  ·have := growBy_le n (by omega) 4 c; omega
theorem an6 {T wd bytes : Nat} (h : appT P T wd bytes = true) : ∃ el z i, P.underlying T = some (.slice el) ∧ szT P el = some wd ∧ P.info? el = some i ∧ i.bytes = bytes ∧ i.zero = some z ∧ z.cells.size = wd := by
 unfold appT at h
 split at h
 ·rename_i el hu
  simp only [Bool.and_eq_true, beq_iff_eq] at h
  obtain ⟨⟨a, b⟩, c⟩ := h
  cases hi : P.info? el with
  | none => rw [hi] at c; simp at c
  | some i =>
    rw [hi] at c
    simp only [Option.bind_some] at c
    cases hz : i.zero with
    | none => rw [hz] at c; simp at c
    | some z =>
      rw [hz] at c
      simp only [bd4, hi, Option.map_some, Option.some.injEq] at b c
      exact ⟨el, z, i, hu, a, hi, b, hz, c⟩
 ·cases h
def Adds (P : Program) (w : World) (T2 wd n : Nat) (x : Value) (new : Array Value) : Prop :=
 (isSl P T2 = true ∧ (Builtin.lenOf x).run P w = .ok n w ∧ ∀ w0, WEq w w0 → (Builtin.firstCells wd n x).run P w0 = .ok new w0)
theorem append_room {T T2 ty wd bytes n sLen sCap : Nat} {base : Option Addr} {x : Value} {new : Array Value} (hok : appT P T wd bytes = true) (hn : Adds P w T2 wd n x new) (hle : sLen + n ≤ sCap)
  (hst : (match base with | some a => storeCells (a.add (sLen * wd)) new.toList | none => pure ()).run P w = .ok () w') :
  (Builtin.append_ #[T, T2] ty #[.slice base sLen sCap, x]).run P w = .ok (.slice base (sLen + n) sCap) w' := by
 obtain ⟨el, z, i, u1, h1, h2, h3, h4, h5⟩ := an6 hok
 obtain ⟨n1, n2, n3⟩ := hn
 have hnew := n3 w (WEq.refl w)
 obtain ⟨e2, u2⟩ : ∃ e2, P.underlying T2 = some (.slice e2) := by
  unfold isSl at n1
  split at n1
  ·exact ⟨_, by assumption⟩
  ·cases n1
 simp only [Builtin.append_, Array.getElem?_eq_getElem, List.getElem?_toArray]
 simp [f0 u1, f0 u2, t7 h1, n2, hle, hnew]
 cases base with
 | none => simp at hst; subst hst; rfl
 | some a => simp at hst; simp [hst]
theorem append_grow {T T2 ty wd bytes n sLen sCap : Nat} {base : Option Addr} {x : Value} {old new : Array Value} (hok : appT P T wd bytes = true) (hn : Adds P w T2 wd n x new)
  (hold : (Builtin.firstCells wd sLen (.slice base sLen sCap)).run P w.drew = .ok old w.drew) (hgt : sCap < sLen + n) (hroom : room (sLen + n) bytes = true) :
  ∃ newCap rest el, sLen + n ≤ newCap ∧ rest.size = (newCap - (sLen + n)) * wd ∧
   (Builtin.append_ #[T, T2] ty #[.slice base sLen sCap, x]).run P w = .ok (.slice (some ⟨w.heap.size, 0, none⟩) (sLen + n) newCap) (w.drew.alloc (.cells (old ++ new ++ rest) el (0, 0))) := by
 obtain ⟨el, z, i, u1, h1, h2, h3, h4, h5⟩ := an6 hok
 obtain ⟨n1, n2, n3⟩ := hn
 have hnew := n3 w.drew (WEq.drew w)
 obtain ⟨e2, u2⟩ : ∃ e2, P.underlying T2 = some (.slice e2) := by
  unfold isSl at n1
  split at n1
  ·exact ⟨_, by assumption⟩
  ·cases n1
 have hroom' : (sLen + n) * bytes ≤ 140737488355328 ∧ sLen + n ≤ 140737488355328 := of_decide_eq_true hroom
 have hnext := bg4 (sLen + n) sCap hgt
 have hb : Builtin.nextslicecap (sLen + n) sCap * bytes ≤ 281474976710656 := by
  refine Nat.le_trans (Nat.mul_le_mul_right bytes hnext) ?_
  rw [Nat.mul_assoc]; omega
 have hneed : sLen + n ≤ 281474976710656 := by omega
 generalize hq : Question.cut (.appendCap (sLen + n) sCap el) (w.tape w.drawn (.appendCap (sLen + n) sCap el)) = newCap
 have hcap : sLen + n ≤ newCap := by rw [← hq]; simp [Question.cut]
 refine ⟨newCap, Builtin.zeroCells z.cells (newCap - (sLen + n)), el, hcap, by simp [Builtin.zeroCells, h5], ?_⟩
 have t1 : ∀ w : World, (typeInfo el).run P w = .ok i w := fun w => by simp [typeInfo, h2]
 have z1 : ∀ w : World, (zeroValue el).run P w = .ok z w := fun w => by simp [zeroValue, typeInfo, h2, h4]
 have c1 : ¬ ((sLen + n : Nat) : Int) > IntKind.i64.max := by simp [IntKind.max, IntKind.bits, IntKind.signed]; omega
 have c2 : ¬ Builtin.nextslicecap (sLen + n) sCap * i.bytes > 281474976710656 := by rw [h3]; omega
 have hgt' : ¬ (sLen + n ≤ sCap) := by omega
 have hdr : ({ w with drawn := w.drawn + 1 } : World) = w.drew := rfl
 simp only [Builtin.append_, Array.getElem?_eq_getElem, List.getElem?_toArray]
 simp [f0 u1, f0 u2, t7 h1, n2, hgt', t1, c2, hold, hnew, z1, newRow, Question.forced, hq, hdr]
 omega
theorem bb6 {T : Nat} (h : bg7 P T = true) : ∃ k, P.underlying T = some (.int k) := by
 unfold bg7 at h
 split at h
 ·exact ⟨_, by assumption⟩
 ·cases h
theorem append_room_z {T T2 ty wd bytes sLen sCap el : Nat} {kk : IntKind} {n : Int} {base : Option Addr} {z : Value} (hok : appT P T wd bytes = true) (h2 : bg7 P T2 = true) (hu : P.underlying T = some (.slice el)) (hz : ∀ w : World, (zeroValue el).run P w = .ok z w) (hzs : z.cells.size = wd)
  (h0 : 0 ≤ n) (h1 : n ≤ 1073741824) (hb : n * bytes ≤ 281474976710656) (hle : sLen + n.toNat ≤ sCap)
  (hst : (match base with | some a => storeCells (a.add (sLen * wd)) (Builtin.zeroCells z.cells n.toNat).toList | none => pure ()).run P w = .ok () w') :
  (Builtin.append_ #[T, T2] ty #[.slice base sLen sCap, .int kk n]).run P w = .ok (.slice base (sLen + n.toNat) sCap) w' := by
 obtain ⟨el', z', i, u1, s1, s2, s3, s4, s5⟩ := an6 hok
 rw [hu] at u1; cases u1
 obtain ⟨k2, u2⟩ := bb6 h2
 have t1 : ∀ w : World, (typeInfo el).run P w = .ok i w := fun w => by simp [typeInfo, s2]
 have hneg : ¬ (n < 0) := by omega
 have hbig : ¬ (n * (i.bytes : Int) > 281474976710656) := by rw [s3]; omega
 have hsz : ∀ n, n * wd = 0 → Builtin.zeroCells z.cells n = #[] := by
  intro n hn
  simp [Builtin.zeroCells, hzs, hn]
 have hap : (if n.toNat * wd = 0 then Result.ok #[] w else Result.ok (Builtin.zeroCells z.cells n.toNat) w) = Result.ok (Builtin.zeroCells z.cells n.toNat) w := by
  split
  ·rename_i e; rw [hsz _ e]
  ·rfl
 simp only [Builtin.append_, Array.getElem?_eq_getElem, List.getElem?_toArray]
 simp [f0 hu, f0 u2, t7 s1, asInt, asIntOf, am4 h0 h1, hneg, t1, hbig, hle, hz]
 split
 ·rename_i e
  rw [hsz _ e] at hst
  cases base with
  | none => simp at hst; subst hst; rfl
  | some a => simp at hst; simp [hst]
 ·cases base with
  | none => simp at hst; subst hst; rfl
  | some a => simp at hst; simp [hst]
theorem append_grow_z {T T2 ty wd bytes sLen sCap el : Nat} {kk : IntKind} {n : Int} {base : Option Addr} {z : Value} {old : Array Value} (hok : appT P T wd bytes = true) (h2 : bg7 P T2 = true) (hu : P.underlying T = some (.slice el)) (hz : ∀ w : World, (zeroValue el).run P w = .ok z w) (hzs : z.cells.size = wd)
  (h0 : 0 ≤ n) (h1 : n ≤ 1073741824) (hb : n * bytes ≤ 281474976710656)
  (hold : (Builtin.firstCells wd sLen (.slice base sLen sCap)).run P w.drew = .ok old w.drew) (hgt : sCap < sLen + n.toNat) (hroom : room (sLen + n.toNat) bytes = true) :
  ∃ newCap rest el, sLen + n.toNat ≤ newCap ∧ rest.size = (newCap - (sLen + n.toNat)) * wd ∧
   (Builtin.append_ #[T, T2] ty #[.slice base sLen sCap, .int kk n]).run P w = .ok (.slice (some ⟨w.heap.size, 0, none⟩) (sLen + n.toNat) newCap) (w.drew.alloc (.cells (old ++ Builtin.zeroCells z.cells n.toNat ++ rest) el (0, 0))) := by
 obtain ⟨el', z', i, u1, s1, s2, s3, s4, s5⟩ := an6 hok
 rw [hu] at u1; cases u1
 obtain ⟨k2, u2⟩ := bb6 h2
 have hroom' : (sLen + n.toNat) * bytes ≤ 140737488355328 ∧ sLen + n.toNat ≤ 140737488355328 := of_decide_eq_true hroom
 have hnext := bg4 (sLen + n.toNat) sCap hgt
 have hbb : Builtin.nextslicecap (sLen + n.toNat) sCap * bytes ≤ 281474976710656 := by
  refine Nat.le_trans (Nat.mul_le_mul_right bytes hnext) ?_
  rw [Nat.mul_assoc]; omega
 have hneed : sLen + n.toNat ≤ 281474976710656 := by omega
 generalize hq : Question.cut (.appendCap (sLen + n.toNat) sCap el) (w.tape w.drawn (.appendCap (sLen + n.toNat) sCap el)) = newCap
 have hcap : sLen + n.toNat ≤ newCap := by rw [← hq]; simp [Question.cut]
 refine ⟨newCap, Builtin.zeroCells z.cells (newCap - (sLen + n.toNat)), el, hcap, by simp [Builtin.zeroCells, hzs], ?_⟩
 have t1 : ∀ w : World, (typeInfo el).run P w = .ok i w := fun w => by simp [typeInfo, s2]
 have hneg : ¬ (n < 0) := by omega
 have hbig : ¬ (n * (i.bytes : Int) > 281474976710656) := by rw [s3]; omega
 have c1 : ¬ ((sLen + n.toNat : Nat) : Int) > IntKind.i64.max := by simp [IntKind.max, IntKind.bits, IntKind.signed]; omega
 have c2 : ¬ Builtin.nextslicecap (sLen + n.toNat) sCap * i.bytes > 281474976710656 := by rw [s3]; omega
 have hgt' : ¬ (sLen + n.toNat ≤ sCap) := by omega
 have hdr : ({ w with drawn := w.drawn + 1 } : World) = w.drew := rfl
 have hsz : ∀ n, n * wd = 0 → Builtin.zeroCells z.cells n = #[] := by
  intro n hn
  simp [Builtin.zeroCells, hzs, hn]
 simp only [Builtin.append_, Array.getElem?_eq_getElem, List.getElem?_toArray]
 simp [f0 hu, f0 u2, t7 s1, asInt, asIntOf, am4 h0 h1, hneg, t1, hbig, hgt', hz, hold, newRow, Question.forced, hq, hdr, c2]
 rw [if_neg (by omega)]
 split
 ·rename_i e; simp [hsz _ e]
 ·rfl
theorem ae8 {α : Type} (l : List α) (a n : Nat) (h : a + n ≤ l.length) : ((l.drop a).take n).length = n := by simp; omega
theorem ao8 {a off len wd o cap : Nat} {gr : Bool} {cs : List V} (hob : OR w g a (.c gr cs)) (hle : off + len * wd ≤ cs.length) (ho : len ≠ 0 → o = off + (g.cz a).2) :
  ∃ old : Array Value, Plain g ((cs.drop off).take (len * wd)) old ∧ ∀ w0, WEq w w0 → (Builtin.firstCells wd len (.slice (some ⟨g.be a, o, none⟩) len cap)).run P w0 = .ok old w0 := by
 by_cases hl : len = 0
 ·subst hl
  refine ⟨#[], ⟨by simp, fun j x v e => by simp at e⟩, fun w0 _ => ?_⟩
  simp [Builtin.firstCells, loadCells, loadCellsFrom]
 ·have := ho hl; subst this
  obtain ⟨vs, hvl, hvs, hr⟩ := hob.cells off (len * wd) hle
  refine ⟨vs.toArray, ⟨by simp [hvl]; omega, fun j x v e1 e2 => hr j x v e1 (by simpa using e2)⟩, fun w0 hw => ?_⟩
  have := run_loadCells_list (P := P) w0 ⟨g.be a, off + (g.cz a).2, none⟩ vs (fun j v e => by rw [aa4, hw.cell]; exact hvs j v e)
  rw [hvl] at this
  simp [Builtin.firstCells, this]
structure AppOk (P : Program) (w : World) (T T2 ty wd bytes n : Nat) (x : Value) (new : Array Value) : Prop where
 room : ∀ (base : Option Addr) (sLen sCap : Nat) (w' : World), sLen + n ≤ sCap → (match base with | some a => storeCells (a.add (sLen * wd)) new.toList | none => pure ()).run P w = .ok () w' →
  (Builtin.append_ #[T, T2] ty #[.slice base sLen sCap, x]).run P w = .ok (.slice base (sLen + n) sCap) w'
 grow : ∀ (base : Option Addr) (sLen sCap : Nat) (old : Array Value), (Builtin.firstCells wd sLen (.slice base sLen sCap)).run P w.drew = .ok old w.drew → sCap < sLen + n → Go.B.room (sLen + n) bytes = true →
  ∃ newCap rest el, sLen + n ≤ newCap ∧ rest.size = (newCap - (sLen + n)) * wd ∧
   (Builtin.append_ #[T, T2] ty #[.slice base sLen sCap, x]).run P w = .ok (.slice (some ⟨w.heap.size, 0, none⟩) (sLen + n) newCap) (w.drew.alloc (.cells (old ++ new ++ rest) el (0, 0)))
theorem AppOk.of {T T2 ty wd bytes n : Nat} {x : Value} {new : Array Value} (hok : appT P T wd bytes = true) (hn : Adds P w T2 wd n x new) : AppOk P w T T2 ty wd bytes n x new :=
 ⟨fun _ _ _ _ hle hst => append_room hok hn hle hst, fun _ _ _ _ hold hgt hroom => append_grow hok hn hold hgt hroom⟩
theorem Plain.append {cs xs : List V} {a b : Array Value} (h : Plain g cs a) (h' : Plain g xs b) : Plain g (cs ++ xs) (a ++ b) := by
 refine ⟨by rw [Array.size_append, List.length_append, h.1, h'.1], fun j x v e1 e2 => ?_⟩
 rcases Nat.lt_or_ge j cs.length with hj | hj
 ·rw [List.getElem?_append_left hj] at e1
  rw [Array.getElem?_append_left (by rw [h.1]; exact hj)] at e2
  exact h.2 j x v e1 e2
 ·rw [List.getElem?_append_right hj] at e1
  rw [Array.getElem?_append_right (by rw [h.1]; exact hj), h.1] at e2
  exact h'.2 _ x v e1 e2
theorem done_appE (h : StR w g tmps st) {o : Oper} {d k rb T T2 wd bytes n : Nat} {op : AOp} {s : V} {sv xv : Value} {xs : List V} {new : Array Value} (hk : op.kx = some k) (hd : o.dst = some d) (hlt : d < tmps.size) (hf : Fr g st.nx rb op)
  (hs : VR g s sv) (hp : Plain g xs new) (hn : xs.length = n * wd) (hok : AppOk P w T T2 o.type wd bytes n xv new)
  (run : ∀ v w', (Builtin.append_ #[T, T2] o.type #[sv, xv]).run P w = .ok v w' → (execOp (Act.eval { tmps, defers := ds }) o).run P w = .ok (.value v) w') (hx : appE rb st d k s xs n wd bytes = some st') :
  be3 P w g o { tmps, defers := ds } st st' (NewD rb op) := by
 have hnl : new.toList.length = n * wd := by have := hp.1; simp; omega
 unfold appE at hx
 split at hx
 ·
  cases hs
  split at hx
  ·rename_i hn0
   cases hx
   subst hn0
   refine ⟨_, _, w, g, run _ _ (hok.room none 0 0 w (Nat.le_refl _) (by simp)), .inl rfl, ⟨?_, h.hr⟩, Stp.refl _ _ _ _⟩
   rw [hd]; exact h.sl.put hlt .ns
  ·rename_i hn0
   split at hx
   ·rename_i hroom
    cases hx
    obtain ⟨newCap, rest, el, g1, g2, g3⟩ := hok.grow none 0 0 #[] (by simp [Builtin.firstCells]) (by omega) (by simpa using hroom)
    rw [Nat.zero_add] at g1 g2 g3
    refine ax7 (rest := rest) (gr := true) (cap := newCap) h (WEq.drew w) hk hd hlt hf hp ?_ g1 (fun e => by cases e) (T := el) ?_
    ·have : new.size = n * wd := by rw [hp.1, hn]
     rw [this, g2, ← Nat.add_mul]; congr 1; omega
    ·have := run _ _ g3
     simpa using this
   ·cases hx
 ·rename_i a off wd' len cp
  cases hs with
  | sl _ _ _ _ _ cap oo hdm hlc hoo hcp =>
  split at hx
  ·rename_i hn0
   cases hx
   subst hn0
   refine ⟨_, _, w, g, run _ _ (hok.room _ len cap w (by omega) ?_), .inl rfl, ⟨?_, h.hr⟩, Stp.refl _ _ _ _⟩
   ·have : new.toList = [] := List.length_eq_zero_iff.1 (by omega)
    simp [this, storeCells]
   ·rw [hd]; exact h.sl.put hlt (.sl a off wd' len cp cap oo hdm hlc hoo hcp)
  ·rename_i hn0
   split at hx
   ·cases hx
   ·rename_i hwd
    obtain ⟨rfl, hw0⟩ : wd = wd' ∧ wd ≠ 0 := by
     constructor
     ·exact Classical.byContradiction fun e => hwd (.inl e)
     ·exact fun e => hwd (.inr e)
    have hpos : 0 < wd := by omega
    split at hx
    ·rename_i gr cs e3
     have hob := h.hr.ob a
     rw [e3] at hob
     obtain ⟨arr, Ty, f1, f2, f3, f4⟩ := hob.block
     split at hx
     ·rename_i hfit
      split at hx
      ·rename_i hin
       cases hx
       have hcap : len + n ≤ cap := by
        cases cp with
        | some c => simp only at hcp; rw [hcp]; exact of_decide_eq_true hfit
        | none =>
          simp only at hcp
          have : (len + n) * wd ≤ cap * wd := by omega
          exact Nat.le_of_mul_le_mul_right this hpos
       have e0 := hoo (by omega)
       subst e0
       have hmul : (len + n) * wd = len * wd + n * wd := Nat.add_mul _ _ _
       have hst := run_storeCells_at P (g.be a) (off + len * wd + (g.cz a).2) Ty new.toList 0 arr w f1 (by rw [hnl]; omega) (al3 hp)
       simp only [Nat.add_zero] at hst
       refine as6 h (live_c e3) hd hlt (run _ _ (hok.room _ len cap _ hcap (by simp only [aa4]; rw [Nat.add_right_comm]; exact hst))) (Wr.row _ _ _) (hob.write f1 hp (by rw [hn]; omega)) ?_ _
       exact .sl a off wd (len + n) cp cap _ hdm hcap (fun _ => rfl) hcp
      ·cases hx
     ·rename_i hfit
      split at hx
      ·rename_i hroom
       obtain ⟨hroom, hin⟩ := hroom
       have grown : cap < len + n → ∀ (w0 : World) (st0 : St) (g0 : G), g0 = g → w0 = w → StR w g tmps st0 → st0.nx = st.nx →
         be3 P w g o { tmps, defers := ds } st0 (st0.alc (rb + k) (.c true ((cs.drop off).take (len * wd) ++ xs)) d (.sl (rb + k) 0 wd (len + n) none)) (NewD rb op) := by
        intro hgt w0 st0 g0 _ _ h0 hnx
        obtain ⟨old, o1, o2⟩ := ao8 (P := P) (cap := cap) hob hin (fun hl => hoo (by omega))
        obtain ⟨newCap, rest, el, g1, g2, g3⟩ := hok.grow _ len cap old (o2 _ (WEq.drew w)) hgt hroom
        refine ax7 (rest := rest) (gr := true) (cap := newCap) h0 (WEq.drew w) hk hd hlt (by rw [hnx]; exact hf) (o1.append hp) ?_ g1 (fun e => by cases e) (T := el) (run _ _ g3)
        have e1 : old.size = len * wd := by rw [o1.1, ae8 _ _ _ hin]
        have e2 : new.size = n * wd := by rw [hp.1, hn]
        rw [Array.size_append, e1, e2, g2, ← Nat.add_mul, ← Nat.add_mul]; congr 1; omega
       split at hx
       ·rename_i hsure
        cases hx
        refine grown ?_ w st g rfl rfl h rfl
        cases cp with
        | some c => simp only at hcp; rw [hcp]; simpa [fitsC] using hfit
        | none =>
          simp only at hcp
          rcases hsure with hsure | hsure
          ·cases hsure
          ·have hcs := f4 hsure
           have hfit' : ¬ (off + (len + n) * wd ≤ cs.length) := by simpa [fitsC] using hfit
           rcases Nat.lt_or_ge cap (len + n) with hlt' | hge
           ·exact hlt'
           ·have := Nat.mul_le_mul_right wd hge; omega
       ·rename_i hsure
        have hcpn : cp = none := by cases cp with | none => rfl | some c => exact (hsure (.inl rfl)).elim
        subst hcpn
        simp only at hcp
        have hx' : some ((st.chg a .gone).alc (rb + k) (.c true ((cs.drop off).take (len * wd) ++ xs)) d (.sl (rb + k) 0 wd (len + n) none)) = some st' := by
         rw [← hx]
         split
         ·rename_i hoff; subst hoff; rfl
         ·rfl
        clear hx
        cases hx'
        rcases Nat.lt_or_ge cap (len + n) with hgt | hge
        ·
         obtain ⟨k1, k2⟩ := h.hr.forget a (o := .gone) rfl
         have h0 : StR w g tmps (st.chg a .gone) := ⟨h.sl, k1⟩
         obtain ⟨r, v, w', g', q1, q2, q3, q4⟩ := grown hgt w (st.chg a .gone) g rfl rfl h0 rfl
         refine ⟨r, v, w', g', q1, q2, q3, (k2.mono (fun _ e => e.elim)).trans q4⟩
        ·
         have e0 := hoo (by omega)
         have hmul : (len + n) * wd = len * wd + n * wd := Nat.add_mul _ _ _
         have hmul2 : (len + n) * wd ≤ cap * wd := Nat.mul_le_mul_right wd hge
         have hst := run_storeCells_at P (g.be a) (oo + len * wd) Ty new.toList 0 arr w f1 (by rw [hnl]; omega) (al3 hp)
         simp only [Nat.add_zero] at hst
         generalize harr : (arr.toList.take (oo + len * wd) ++ new.toList ++ arr.toList.drop (oo + len * wd + new.toList.length)).toArray = arr' at hst
         have hfit2 : oo + len * wd + new.toList.length ≤ arr.size := by rw [hnl]; omega
         have hget : ∀ j, arr'[j]? = if oo + len * wd ≤ j ∧ j < oo + len * wd + n * wd then new.toList[j - (oo + len * wd)]? else arr[j]? := by
          intro j; rw [← harr, bf3 arr _ _ j hfit2, hnl]
         have hsz : arr'.size = arr.size := by rw [← harr]; exact ay8 _ _ _ hfit2
         obtain ⟨fr1, fr2⟩ := hf k hk
         have hle := Le.new (g := g) (a := rb + k) (b := g.be a) (n := (cap * wd, oo)) fr1
         have hob' : OR (w.setRow (g.be a) arr') (g.new (rb + k) (g.be a) (cap * wd, oo)) (rb + k) (.c true ((cs.drop off).take (len * wd) ++ xs)) := by
          obtain ⟨arr2, T3, q1, q2, q3, q4, q5⟩ := hob
          rw [f1] at q1; cases q1
          have hcl : ((cs.drop off).take (len * wd)).length = len * wd := ae8 _ _ _ hin
          refine ⟨arr', Ty, by rw [ab7]; exact setRow_heap w _ arr arr' Ty _ f1, by rw [ak5, hsz, q2]; simp only; omega, by rw [ak5, List.length_append, hcl, hn]; simp only; omega, fun e => (by cases e), fun j x e => ?_⟩
          rw [ak5, hget]
          simp only
          rcases Nat.lt_or_ge j (len * wd) with hj | hj
          ·rw [List.getElem?_append_left (by omega), List.getElem?_take, if_pos hj, List.getElem?_drop] at e
           rw [if_neg (by omega)]
           obtain ⟨v, r1, r2, r3⟩ := q5 (off + j) x e
           exact ⟨v, by rw [← r1]; congr 1; omega, r2, r3.mono hle⟩
          ·rw [List.getElem?_append_right (by omega), hcl] at e
           have hjx : j - len * wd < n * wd := by rw [← hn]; exact ai4 e
           rw [if_pos (by omega), show j + oo - (oo + len * wd) = j - len * wd by omega]
           have ev : new[j - len * wd]? = some new.toList[j - len * wd] := by rw [← Array.getElem?_toList]; exact List.getElem?_eq_getElem (by omega)
           obtain ⟨r1, r2⟩ := hp.2 _ x _ e ev
           exact ⟨_, by rw [← Array.getElem?_toList] at ev; exact ev, r1, r2.mono hle⟩
         obtain ⟨k1, k2⟩ := h.hr.adopt (o' := .gone) fr1 fr2 (live_c e3) rfl (Wr.row w (g.be a) arr') hob'
         refine ⟨_, _, _, _, run _ _ (hok.room _ len cap _ hge (by simp only [aa4]; exact hst)), .inl rfl, ⟨?_, k1⟩, k2.mono (fun x e => ⟨k, hk, e⟩)⟩
         rw [hd]
         refine (h.sl.mono hle).put hlt ?_
         have := VR.sl (g := g.new (rb + k) (g.be a) (cap * wd, oo)) (rb + k) 0 wd (len + n) none cap oo (au1 g _ _ _) hge (fun _ => by rw [ak5]; simp only; omega) (by simp only [ak5, Nat.zero_add])
         rwa [ab7] at this
      ·cases hx
    ·cases hx
 ·cases hx
end
end Go.B
