/-
  A new object, an object that changes; literals, boxes, slices made, stores. Program-independent.
-/
import Derived.Test.YtagogibgoknncaaGreatDoorBF
set_option linter.unusedSectionVars false
set_option linter.unusedVariables false
set_option linter.unusedSimpArgs false
namespace Go.B
variable [iok : OkC]
structure StR (w : World) (g : G) (tmps : Array Value) (st : St) : Prop where
 sl : SlR g tmps st.sl
 hr : HR w g st.h st.nx
theorem SlR.put {g : G} {tmps : Array Value} {sl : Nat → V} (h : SlR g tmps sl) {d : Nat} (hd : d < tmps.size) {x : V} {v : Value} (hx : VR g x v) : SlR g (tmps.setIfInBounds d v) (upd sl d x) := by
 intro s
 by_cases hs : s = d
 ·subst hs
  rw [j5]
  simpa [Array.getD_eq_getD_getElem?, hd] using hx
 ·rw [j4 _ _ hs]
  have : (tmps.setIfInBounds d v).getD s undef = tmps.getD s undef := by simp [Array.getD_eq_getD_getElem?, Array.getElem?_setIfInBounds, Ne.symm hs]
  rw [this]; exact h s
def G.new (g : G) (a b : Nat) (n : Nat × Nat) : G := { g with be := upd g.be a b, cz := upd g.cz a n, dom := fun x => g.dom x ∨ x = a }
theorem Le.new {g : G} {a b : Nat} {n : Nat × Nat} (ha : ¬ g.dom a) : Le g (g.new a b n) :=
 ⟨fun x hx => ⟨.inl hx, j4 _ _ (fun e => ha (e ▸ hx)), j4 _ _ (fun e => ha (e ▸ hx))⟩, fun _ _ _ h => h⟩
theorem ab7 (g : G) (a b : Nat) (n : Nat × Nat) : (g.new a b n).be a = b := j5 _ _ _
theorem ak5 (g : G) (a b : Nat) (n : Nat × Nat) : (g.new a b n).cz a = n := j5 _ _ _
theorem au1 (g : G) (a b : Nat) (n : Nat × Nat) : (g.new a b n).dom a := .inr rfl
section
variable {P : Program} {w w' : World} {g g' : G} {H H' : Hp} {nx : Nat} {tmps : Array Value} {sl : Nat → V} {st st' : St} {ds : List Deferred}
theorem HR.lt_of_live (h : HR w g H nx) {a : Nat} (ha : (H a).live = true) : g.be a < w.heap.size := h.lt a (h.dm a ha)
structure WEq (w w' : World) : Prop where
 heap : w'.heap = w.heap
 out : w'.output = w.output
 os : w'.os = w.os
theorem WEq.refl (w : World) : WEq w w := ⟨rfl, rfl, rfl⟩
theorem WEq.drew (w : World) : WEq w w.drew := ⟨rfl, rfl, rfl⟩
theorem WEq.cell {w w' : World} (h : WEq w w') (a : Addr) : w'.cell? a = w.cell? a := by simp only [World.cell?, h.heap]
theorem at0 (w : World) (o : Obj) {c : Nat} (h : c < w.heap.size) : (w.alloc o).heap[c]? = w.heap[c]? := by
 show (w.heap.push o)[c]? = _
 rw [Array.getElem?_push, if_neg (Nat.ne_of_lt h)]
theorem ae9 (w : World) (o : Obj) : (w.alloc o).heap[w.heap.size]? = some o := by
 show (w.heap.push o)[w.heap.size]? = _
 simp
theorem cell_lt (h : HR w g H nx) {c o : Nat} {v : Value} (hz : g.fz c o = some v) : c < w.heap.size := World.block_lt_of_cell? w ⟨c, o, none⟩ (h.fz c o v hz).1
theorem HR.alloc (h : HR w g H nx) {w0 : World} (hw : WEq w w0) {ob : Obj} {a : Nat} {n : Nat × Nat} {o : O} (ha : ¬ g.dom a) (hlt : a < nx) (ho : OR (w0.alloc ob) (g.new a w.heap.size n) a o) (hl : o.live = true) :
  HR (w0.alloc ob) (g.new a w.heap.size n) (upd H a o) nx ∧ Stp w g H (w0.alloc ob) (g.new a w.heap.size n) (upd H a o) (fun x => x = a) := by
 have hle : Le g (g.new a w.heap.size n) := Le.new ha
 have hsz : w0.heap.size = w.heap.size := by rw [hw.heap]
 have hsz' : (w0.alloc ob).heap.size = w.heap.size + 1 := by simp [hsz]
 have hold : ∀ c, c < w.heap.size → (w0.alloc ob).heap[c]? = w.heap[c]? := fun c hc => by rw [at0 _ _ (by rw [hsz]; exact hc), hw.heap]
 have hbe : ∀ x, g.dom x → (g.new a w.heap.size n).be x = g.be x := fun x hx => (hle.dom x hx).2.1
 have hlive : ∀ x, (upd H a o x).live = true → x = a ∨ (x ≠ a ∧ (H x).live = true) := by
  intro x hx
  by_cases hxa : x = a
  ·exact .inl hxa
  ·rw [j4 _ _ hxa] at hx; exact .inr ⟨hxa, hx⟩
 refine ⟨⟨fun x => ?_, fun x hx => ?_, fun x y hx hy e => ?_, fun x hx => ?_, fun x hx => ?_, fun c oo v hz => ?_⟩, ⟨hle, by omega, fun c hc _ => hold c hc, fun x hx => ?_, fun x hx => hx.imp id id, fun c oo v hz => .inl hz, hw.out, hw.os⟩⟩
 ·by_cases hxa : x = a
  ·subst hxa; rw [j5]; exact ho
  ·rw [j4 _ _ hxa]
   exact (h.ob x).mono hle (h.dm x) (fun hl => hold _ (h.lt_of_live hl))
 ·rcases hlive x hx with rfl | ⟨_, hx⟩
  ·exact .inr rfl
  ·exact .inl (h.dm x hx)
 ·have h1 := hlive x hx
  have h2 := hlive y hy
  clear hx hy
  rcases h1 with rfl | ⟨hxa, hx⟩ <;> rcases h2 with rfl | ⟨hya, hy⟩
  ·rfl
  ·rw [ab7, hbe y (h.dm y hy)] at e; have := h.lt_of_live hy; omega
  ·rw [ab7, hbe x (h.dm x hx)] at e; have := h.lt_of_live hx; omega
  ·rw [hbe x (h.dm x hx), hbe y (h.dm y hy)] at e; exact h.inj x y hx hy e
 ·rcases hx with hx | rfl
  ·exact h.nx x hx
  ·exact hlt
 ·rcases hx with hx | rfl
  ·rw [hbe x hx]; have := h.lt x hx; omega
  ·rw [ab7]; omega
 ·obtain ⟨q1, q2⟩ := h.fz c oo v hz
  have hc := cell_lt h hz
  refine ⟨?_, fun x hx => ?_⟩
  ·rw [World.cell?_alloc_lt _ _ _ (by simp [hsz, hc]), hw.cell]; exact q1
  ·rcases hlive x hx with rfl | ⟨_, hx⟩
   ·rw [ab7]; omega
   ·rw [hbe x (h.dm x hx)]; exact q2 x hx
 ·rcases hlive x hx with rfl | ⟨_, hx⟩
  ·exact .inl (by rw [ab7]; omega)
  ·exact .inr ⟨x, hx, (hbe x (h.dm x hx)).symm⟩
structure Wr (w w' : World) (c : Nat) : Prop where
 size : w'.heap.size = w.heap.size
 heap : ∀ d, d ≠ c → w'.heap[d]? = w.heap[d]?
 out : w'.output = w.output
 os : w'.os = w.os
theorem Wr.row (w : World) (c : Nat) (arr : Array Value) : Wr w (w.setRow c arr) c := ⟨by simp, fun d hd => setRow_other w c d arr hd, rfl, rfl⟩
theorem Wr.cell {c : Nat} (h : Wr w w' c) {d o : Nat} (hd : d ≠ c) : w'.cell? ⟨d, o, none⟩ = w.cell? ⟨d, o, none⟩ := by simp only [World.cell?, h.heap d hd]
theorem HR.chg (h : HR w g H nx) {a : Nat} {o : O} (ha : (H a).live = true) (hw : Wr w w' (g.be a)) (ho : OR w' g a o) :
  HR w' g (upd H a o) nx ∧ Stp w g H w' g (upd H a o) (fun _ => False) := by
 have hlive : ∀ x, (upd H a o x).live = true → (H x).live = true := by
  intro x hx
  by_cases hxa : x = a
  ·subst hxa; exact ha
  ·rwa [j4 _ _ hxa] at hx
 refine ⟨⟨fun x => ?_, fun x hx => h.dm x (hlive x hx), fun x y hx hy e => h.inj x y (hlive x hx) (hlive y hy) e, h.nx, fun x hx => by rw [hw.size]; exact h.lt x hx, fun c oo v hz => ?_⟩,
  ⟨Le.refl g, by rw [hw.size]; exact Nat.le_refl _, fun c hc hno => hw.heap c (fun e => hno a ha e.symm), fun x hx => .inr ⟨x, hlive x hx, rfl⟩, fun x hx => .inl hx, fun c oo v hz => .inl hz, hw.out, hw.os⟩⟩
 ·by_cases hxa : x = a
  ·subst hxa; rw [j5]; exact ho
  ·rw [j4 _ _ hxa]
   exact (h.ob x).mono (Le.refl g) (h.dm x) (fun hl => hw.heap _ (fun e => hxa (h.inj x a hl ha e)))
 ·obtain ⟨q1, q2⟩ := h.fz c oo v hz
  exact ⟨by rw [hw.cell (fun e => q2 a ha e.symm)]; exact q1, fun x hx => q2 x (hlive x hx)⟩
theorem HR.forget (h : HR w g H nx) (a : Nat) {o : O} (ho : o.live = false) : HR w g (upd H a o) nx ∧ Stp w g H w g (upd H a o) (fun _ => False) := by
 have hlive : ∀ x, (upd H a o x).live = true → (H x).live = true := by
  intro x hx
  by_cases hxa : x = a
  ·subst hxa; rw [j5, ho] at hx; cases hx
  ·rwa [j4 _ _ hxa] at hx
 refine ⟨⟨fun x => ?_, fun x hx => h.dm x (hlive x hx), fun x y hx hy e => h.inj x y (hlive x hx) (hlive y hy) e, h.nx, h.lt, fun c oo v hz => ⟨(h.fz c oo v hz).1, fun x hx => (h.fz c oo v hz).2 x (hlive x hx)⟩⟩,
  ⟨Le.refl g, Nat.le_refl _, fun c hc hno => rfl, fun x hx => .inr ⟨x, hlive x hx, rfl⟩, fun x hx => .inl hx, fun c oo v hz => .inl hz, rfl, rfl⟩⟩
 by_cases hxa : x = a
 ·subst hxa; rw [j5]; cases o <;> first | trivial | cases ho
 ·rw [j4 _ _ hxa]; exact h.ob x
theorem HR.adopt (h : HR w g H nx) {a b : Nat} {n : Nat × Nat} {o o' : O} (ha : ¬ g.dom a) (hlt : a < nx) (hb : (H b).live = true) (ho' : o'.live = false) (hw : Wr w w' (g.be b)) (ho : OR w' (g.new a (g.be b) n) a o) :
  HR w' (g.new a (g.be b) n) (upd (upd H b o') a o) nx ∧ Stp w g H w' (g.new a (g.be b) n) (upd (upd H b o') a o) (fun x => x = a) := by
 have hle : Le g (g.new a (g.be b) n) := Le.new ha
 have hbe : ∀ x, g.dom x → (g.new a (g.be b) n).be x = g.be x := fun x hx => (hle.dom x hx).2.1
 have hlive : ∀ x, (upd (upd H b o') a o x).live = true → x = a ∨ (x ≠ a ∧ x ≠ b ∧ (H x).live = true) := by
  intro x hx
  by_cases hxa : x = a
  ·exact .inl hxa
  ·rw [j4 _ _ hxa] at hx
   by_cases hxb : x = b
   ·subst hxb; rw [j5, ho'] at hx; cases hx
   ·rw [j4 _ _ hxb] at hx; exact .inr ⟨hxa, hxb, hx⟩
 refine ⟨⟨fun x => ?_, fun x hx => ?_, fun x y hx hy e => ?_, fun x hx => ?_, fun x hx => ?_, fun c oo v hz => ?_⟩,
  ⟨hle, by rw [hw.size]; exact Nat.le_refl _, fun c hc hno => hw.heap c (fun e => hno b hb e.symm), fun x hx => ?_, fun x hx => hx.imp id id, fun c oo v hz => .inl hz, hw.out, hw.os⟩⟩
 ·by_cases hxa : x = a
  ·subst hxa; rw [j5]; exact ho
  ·rw [j4 _ _ hxa]
   by_cases hxb : x = b
   ·subst hxb; rw [j5]; cases o' <;> first | trivial | cases ho'
   ·rw [j4 _ _ hxb]
    exact (h.ob x).mono hle (h.dm x) (fun hl => hw.heap _ (fun e => hxb (h.inj x b hl hb e)))
 ·rcases hlive x hx with rfl | ⟨_, _, hx⟩
  ·exact .inr rfl
  ·exact .inl (h.dm x hx)
 ·have h1 := hlive x hx
  have h2 := hlive y hy
  clear hx hy
  rcases h1 with rfl | ⟨hxa, hxb, hx⟩ <;> rcases h2 with rfl | ⟨hya, hyb, hy⟩
  ·rfl
  ·rw [ab7, hbe y (h.dm y hy)] at e; exact (hyb (h.inj y b hy hb e.symm)).elim
  ·rw [ab7, hbe x (h.dm x hx)] at e; exact (hxb (h.inj x b hx hb e)).elim
  ·rw [hbe x (h.dm x hx), hbe y (h.dm y hy)] at e; exact h.inj x y hx hy e
 ·rcases hx with hx | rfl
  ·exact h.nx x hx
  ·exact hlt
 ·rw [hw.size]
  rcases hx with hx | rfl
  ·rw [hbe x hx]; exact h.lt x hx
  ·rw [ab7]; exact h.lt_of_live hb
 ·obtain ⟨q1, q2⟩ := h.fz c oo v hz
  refine ⟨by rw [hw.cell (fun e => q2 b hb e.symm)]; exact q1, fun x hx => ?_⟩
  rcases hlive x hx with rfl | ⟨_, _, hx⟩
  ·rw [ab7]; exact q2 b hb
  ·rw [hbe x (h.dm x hx)]; exact q2 x hx
 ·rcases hlive x hx with rfl | ⟨_, _, hx⟩
  ·exact .inr ⟨b, hb, (ab7 _ _ _ _).symm⟩
  ·exact .inr ⟨x, hx, (hbe x (h.dm x hx)).symm⟩
def AOp.kx : AOp → Option Nat
 | .new _ k _ | .box _ k _ | .bsl _ k _ _ | .mks _ k _ _ _ _ _ | .mkm _ k | .app _ k _ _ _ _ | .apz _ k _ _ _ _ _ => some k
 | _ => none
def AOp.dst : AOp → Option Nat
 | .set d _ | .new d _ _ | .box d _ _ | .bsl d _ _ _ | .mks d _ _ _ _ _ _ | .mkm d _ | .app d _ _ _ _ _ | .apz d _ _ _ _ _ _ | .cpy d _ _ _ | .men d _ _ _ _ _ | .cal d _ _ | .cav d _ _ | .inv d _ _ _ => some d
 | .stp _ _ _ | .clr _ _ _ | .mst _ _ _ _ | .mdl _ _ _ | .ens _ _ _ | .dfr _ _ => none
def Fr (g : G) (nx rb : Nat) (op : AOp) : Prop := ∀ k, op.kx = some k → ¬ g.dom (rb + k) ∧ rb + k < nx
def NewD (rb : Nat) (op : AOp) : Nat → Prop := fun x => ∃ k, op.kx = some k ∧ x = rb + k
def be3 (P : Program) (w : World) (g : G) (o : Oper) (a : Act) (st st' : St) (D : Nat → Prop) : Prop :=
 ∃ r v w' g', (execOp a.eval o).run P w = .ok r w' ∧ (r = .value v ∨ (r = .skip ∧ v = undef)) ∧ StR w' g' (a.put o.dst v).tmps st' ∧ Stp w g st.h w' g' st'.h D
theorem act_put (d : Nat) (v : Value) : (Act.put { tmps, defers := ds } (some d) v).tmps = tmps.setIfInBounds d v := rfl
theorem done_set (h : StR w g tmps st) {o : Oper} {d : Nat} {x : AX} {e : V} (hd : o.dst = some d) (hlt : d < tmps.size) (hc : chkX P o.op x = true) (hx : evX st.sl st.h x = some e) (D : Nat → Prop) :
  be3 P w g o { tmps, defers := ds } st (st.put d e) D := by
 obtain ⟨v, hr, hv⟩ := chkX_sound (ds := ds) h.hr h.sl hc hx
 refine ⟨_, v, w, g, hr, .inl rfl, ⟨?_, h.hr⟩, Stp.refl w g st.h D⟩
 rw [hd]; exact h.sl.put hlt hv
theorem done_alc (h : StR w g tmps st) {o : Oper} {d a : Nat} {n : Nat × Nat} {ob : Obj} {oo : O} {x : V} {v : Value} {w0 : World} (hw : WEq w w0) (hd : o.dst = some d) (hlt : d < tmps.size) (ha : ¬ g.dom a) (hnx : a < st.nx)
  (run : (execOp (Act.eval { tmps, defers := ds }) o).run P w = .ok (.value v) (w0.alloc ob)) (ho : OR (w0.alloc ob) (g.new a w.heap.size n) a oo) (hl : oo.live = true) (hx : VR (g.new a w.heap.size n) x v) :
  be3 P w g o { tmps, defers := ds } st (st.alc a oo d x) (fun y => y = a) := by
 obtain ⟨h1, h2⟩ := h.hr.alloc hw (ob := ob) (o := oo) ha hnx ho hl
 refine ⟨_, v, _, _, run, .inl rfl, ⟨?_, h1⟩, h2⟩
 rw [hd]; exact (h.sl.mono h2.le).put hlt hx
theorem OR.laid {w0 : World} {a b n : Nat} {cs : List V} {arr rest : Array Value} {T : TypeId} {gr : Bool} (hb : b = w0.heap.size) (hp : Plain g cs arr) (hle : Le g (g.new a b (n, 0))) (hn : n = arr.size + rest.size) (hg : gr = false → rest.size = 0) :
  OR (w0.alloc (.cells (arr ++ rest) T (0, 0))) (g.new a b (n, 0)) a (.c gr cs) := by
 refine ⟨arr ++ rest, T, by rw [ab7, hb]; exact ae9 _ _, by rw [ak5, hn]; simp, by rw [ak5, hn, hp.1]; simp only; omega, fun e => by rw [ak5, hn, hg e, hp.1]; rfl, fun j x e => ?_⟩
 have hj : j < arr.size := by rw [hp.1]; exact ai4 e
 have ha : arr[j]? = some arr[j] := by simp [hj]
 obtain ⟨k1, k2⟩ := hp.2 j x _ e ha
 exact ⟨arr[j], by rw [ak5]; simp only [Nat.add_zero]; rw [Array.getElem?_append_left hj]; exact ha, k1, k2.mono hle⟩
theorem OR.laid0 {w0 : World} {a b n : Nat} {cs : List V} {arr : Array Value} {T : TypeId} (hb : b = w0.heap.size) (hp : Plain g cs arr) (hle : Le g (g.new a b (n, 0))) (hn : n = arr.size) :
  OR (w0.alloc (.cells arr T (0, 0))) (g.new a b (n, 0)) a (.c false cs) := by
 have := OR.laid (w0 := w0) (rest := #[]) (T := T) (gr := false) hb hp hle (by simpa using hn) (fun _ => rfl)
 simpa using this
theorem bf8 (w : World) (T : TypeId) (v : Value) : (newVar T v).run P w = .ok ⟨w.heap.size, 0, none⟩ (w.alloc (.cells v.cells T (0, 0))) := by
 simp [newVar, newRow]
theorem done_box0 (h : StR w g tmps st) {o : Oper} {d k rb T : Nat} {op : AOp} {cs : List V} {arr : Array Value} (hk : op.kx = some k) (hd : o.dst = some d) (hlt : d < tmps.size) (hf : Fr g st.nx rb op) (hp : Plain g cs arr)
  (run : (execOp (Act.eval { tmps, defers := ds }) o).run P w = .ok (.value (.pointer (some ⟨w.heap.size, 0, none⟩))) (w.alloc (.cells arr T (0, 0)))) :
  be3 P w g o { tmps, defers := ds } st (st.alc (rb + k) (.c false cs) d (.p (rb + k) 0)) (NewD rb op) := by
 obtain ⟨f1, f2⟩ := hf k hk
 have hv : VR (g.new (rb + k) w.heap.size (arr.size, 0)) (.p (rb + k) 0) (.pointer (some ⟨w.heap.size, 0, none⟩)) := by
  have := VR.p (g := g.new (rb + k) w.heap.size (arr.size, 0)) (rb + k) 0 (au1 g _ _ _)
  rwa [ab7, ak5] at this
 obtain ⟨r, v, w', g', q1, q2, q3, q4⟩ := done_alc (ds := ds) (n := (arr.size, 0)) (oo := .c false cs) h (WEq.refl w) hd hlt f1 f2 run (OR.laid0 rfl hp (Le.new f1) rfl) rfl hv
 exact ⟨r, v, w', g', q1, q2, q3, q4.mono fun a e => ⟨k, hk, e⟩⟩
theorem done_new (h : StR w g tmps st) {o : Oper} {d k rb T : Nat} {zero : List V} (hd : o.dst = some d) (hlt : d < tmps.size) (hf : Fr g st.nx rb (.new d k zero)) (ho : o.op = .alloc T) (hz : ad9 P T zero = true) (hx : q9 rb st (.new d k zero) = some st') :
  be3 P w g o { tmps, defers := ds } st st' (NewD rb (.new d k zero)) := by
 obtain ⟨z, z1, z2⟩ := aa3 (g := g) hz
 simp only [q9, Option.some.injEq] at hx
 subst hx
 exact done_box0 h rfl hd hlt hf z2 (T := T) (by simp [execOp, ho, Instr.alloc, z1, bf8])
theorem done_box (h : StR w g tmps st) {o : Oper} {d k rb T : Nat} {a : Operand} {x : AO} (hd : o.dst = some d) (hlt : d < tmps.size) (hf : Fr g st.nx rb (.box d k x)) (ho : o.op = .box T a) (hc : opd a x = true) (hx : q9 rb st (.box d k x) = some st') :
  be3 P w g o { tmps, defers := ds } st st' (NewD rb (.box d k x)) := by
 simp only [q9] at hx
 cases hs : stored (evO st.sl x) with
 | none => rw [hs] at hx; cases hx
 | some l =>
   rw [hs] at hx
   cases hx
   exact done_box0 h rfl hd hlt hf (ab5 (e9 (ds := ds) h.sl hc) hs) (T := T) (by simp [execOp, ho, Instr.box, bf8])
theorem ax7 (h : StR w g tmps st) {o : Oper} {d k rb wd len T : Nat} {op : AOp} {cs : List V} {arr : Array Value} {cap : Nat} {gr : Bool} {rest : Array Value} {w0 : World} (hw : WEq w w0) (hk : op.kx = some k) (hd : o.dst = some d) (hlt : d < tmps.size) (hf : Fr g st.nx rb op)
  (hp : Plain g cs arr) (hcap : arr.size + rest.size = cap * wd) (hlen : len ≤ cap) (hg : gr = false → rest.size = 0)
  (run : (execOp (Act.eval { tmps, defers := ds }) o).run P w = .ok (.value (.slice (some ⟨w.heap.size, 0, none⟩) len cap)) (w0.alloc (.cells (arr ++ rest) T (0, 0)))) :
  be3 P w g o { tmps, defers := ds } st (st.alc (rb + k) (.c gr cs) d (.sl (rb + k) 0 wd len none)) (NewD rb op) := by
 obtain ⟨f1, f2⟩ := hf k hk
 have hsz : w.heap.size = w0.heap.size := by rw [hw.heap]
 have hv : VR (g.new (rb + k) w.heap.size (arr.size + rest.size, 0)) (.sl (rb + k) 0 wd len none) (.slice (some ⟨w.heap.size, 0, none⟩) len cap) := by
  have := VR.sl (g := g.new (rb + k) w.heap.size (arr.size + rest.size, 0)) (rb + k) 0 wd len none cap 0 (au1 g _ _ _) hlen (fun _ => by rw [ak5]; rfl) (by simp only [ak5]; omega)
  rwa [ab7] at this
 obtain ⟨r, v, w', g', q1, q2, q3, q4⟩ := done_alc (ds := ds) (n := (arr.size + rest.size, 0)) (oo := .c gr cs) h hw hd hlt f1 f2 run (OR.laid hsz hp (Le.new f1) rfl hg) rfl hv
 exact ⟨r, v, w', g', q1, q2, q3, q4.mono fun a e => ⟨k, hk, e⟩⟩
def aj2 : Nat → List (Nat × Operand) → List AO → Bool
 | _, [], [] => true
 | i, (j, a) :: r, x :: xs => i == j && opd a x && aj2 (i + 1) r xs
 | _, _, _ => false
def bslOk (P : Program) (T n wd k : Nat) : Bool :=
 n == k && decide (n * wd ≤ 16777216) && (match P.underlying T with | some (.slice e) => szT P e == some wd && ((P.info? e).bind (·.zero)).isSome | _ => false)
theorem seq_sound : ∀ (i : Nat) (parts : List (Nat × Operand)) (xs : List AO), aj2 i parts xs = true → parts.map (·.1) = List.range' i xs.length ∧ ba5 (parts.map (·.2)) xs = true
 | i, [], [], _ => ⟨rfl, rfl⟩
 | i, [], _ :: _, hc => by simp [aj2] at hc
 | i, _ :: _, [], hc => by simp [aj2] at hc
 | i, (j, a) :: r, x :: xs, hc => by
   simp only [aj2, Bool.and_eq_true, beq_iff_eq] at hc
   obtain ⟨⟨rfl, c2⟩, c3⟩ := hc
   obtain ⟨i1, i2⟩ := seq_sound (i + 1) r xs c3
   exact ⟨by simp [List.range'_succ, i1], by simp [ba5, c2, i2]⟩
theorem bf3 (arr : Array Value) (vs : List Value) (col j : Nat) (hl : col + vs.length ≤ arr.size) :
  (arr.toList.take col ++ vs ++ arr.toList.drop (col + vs.length)).toArray[j]? = if col ≤ j ∧ j < col + vs.length then vs[j - col]? else arr[j]? := by
 simp only [List.getElem?_toArray]
 have hlen : (arr.toList.take col).length = col := by simp; omega
 by_cases h1 : j < col
 ·rw [if_neg (by omega), List.append_assoc, List.getElem?_append_left (by omega), List.getElem?_take, if_pos h1]; simp
 ·by_cases h2 : j < col + vs.length
  ·rw [if_pos (by omega), List.append_assoc, List.getElem?_append_right (by omega), hlen, List.getElem?_append_left (by omega)]
  ·rw [if_neg (by omega), List.getElem?_append_right (by simp; omega)]
   simp only [List.length_append, hlen, List.getElem?_drop]
   rw [show col + vs.length + (j - (col + vs.length)) = j by omega]
   simp
theorem ay8 (arr : Array Value) (vs : List Value) (col : Nat) (hl : col + vs.length ≤ arr.size) : (arr.toList.take col ++ vs ++ arr.toList.drop (col + vs.length)).toArray.size = arr.size := by
 simp; omega
theorem storeAt_run {T n c col : Nat} {arr : Array Value} {Ty : TypeId} {v : Value} (hs : szT P T = some n) (hv : v.cells.size = n) (hb : w.heap[c]? = some (.cells arr Ty (0, 0))) (hl : col + n ≤ arr.size)
  (h1 : ∀ u ∈ v.cells.toList, u.oneCell' = true) :
  (Instr.storeAt T (.pointer (some ⟨c, col, none⟩)) v).run P w = .ok () (w.setRow c (arr.toList.take col ++ v.cells.toList ++ arr.toList.drop (col + v.cells.toList.length)).toArray) := by
 have hr := run_storeCells_at P c col Ty v.cells.toList 0 arr w hb (by simp; omega) h1
 simp only [Nat.add_zero] at hr
 simp only [Instr.storeAt, Instr.sureAddr, pure_bind, storeVar, Sem.run_bind, t7 hs, Result.andThen_ok, hv]
 simp [hr]
theorem fill_rows (wd : Nat) : ∀ (vs : List Value) (i : Nat) (cells : Array Value), (∀ v ∈ vs, v.cells.size = wd) → (i + vs.length) * wd ≤ cells.size →
  ∃ cells', Instr.fill (fun i => some (i * wd, wd)) cells ((List.range' i vs.length).zip vs) = some cells' ∧ cells'.size = cells.size ∧
   (∀ j, j < i * wd → cells'[j]? = cells[j]?) ∧ ∀ k j v, vs[k]? = some v → j < wd → cells'[(i + k) * wd + j]? = v.cells[j]?
 | [], i, cells, _, _ => ⟨cells, rfl, rfl, fun _ _ => rfl, fun k j v e => by simp at e⟩
 | v :: vs, i, cells, hs, hl => by
   have hv : v.cells.size = wd := hs v (by simp)
   simp only [List.length_cons] at hl
   have hl0 : i * wd + wd ≤ cells.size := by
    have : (i + 1) * wd ≤ (i + (vs.length + 1)) * wd := Nat.mul_le_mul_right wd (by omega)
    rw [Nat.add_mul, Nat.one_mul] at this; omega
   have hfold : v.cells.zipIdx.foldl (fun cs (c, j) => cs.setIfInBounds (i * wd + j) c) cells = (v.cells.toList.zipIdx 0).foldl (fun cs (c, j) => cs.setIfInBounds (i * wd + j) c) cells := by
    rw [← Array.foldl_toList, Array.toList_zipIdx]
   obtain ⟨f1, f2⟩ := fold_get v.cells.toList 0 (i * wd) cells
   have hvl : v.cells.toList.length = wd := by simpa using hv
   obtain ⟨cells', c1, c2, c3, c4⟩ := fill_rows wd vs (i + 1) _ (fun u hu => hs u (by simp [hu])) (by rw [f1]; rw [show i + 1 + vs.length = i + (vs.length + 1) by omega]; exact hl)
   refine ⟨cells', ?_, by rw [c2, f1], fun j hj => ?_, fun k j u hk hj => ?_⟩
   ·simp only [List.length_cons, List.range'_succ, List.zip_cons_cons, Instr.fill]
    have hcond : (decide (v.cells.size ≠ wd) || decide (i * wd + v.cells.size > cells.size)) = false := by rw [hv]; simp; omega
    simp only [hcond, Bool.false_eq_true, if_false]
    rw [hfold]; exact c1
   ·have hj' : j < (i + 1) * wd := by rw [Nat.add_mul]; omega
    rw [c3 j hj', f2 j (by rw [hvl]; omega), if_neg (by omega)]
   ·cases k with
    | zero =>
      simp at hk; subst hk
      have hj' : i * wd + j < (i + 1) * wd := by rw [Nat.add_mul]; omega
      rw [Nat.add_zero, c3 _ hj', f2 _ (by rw [hvl]; omega), if_pos (by rw [hvl]; omega)]
      rw [show i * wd + j - (i * wd + 0) = j by omega]; simp
    | succ k =>
      rw [show i + (k + 1) = i + 1 + k by omega]
      exact c4 k j u (by simpa using hk) hj
theorem zip_parts {parts : List (Nat × Operand)} {n : Nat} (h : parts.map (·.1) = List.range' 0 n) (f : Operand → Value) :
  parts.map (fun p => (p.1, f p.2)) = (List.range' 0 (parts.map fun p => f p.2).length).zip (parts.map fun p => f p.2) := by
 have hl : parts.length = n := by have := congrArg List.length h; simpa using this
 rw [List.length_map, hl, ← h]
 clear h hl
 induction parts with
 | nil => rfl
 | cons p ps ih => simp [ih]
theorem av7 {wd : Nat} : ∀ {ys : List V} {l : List V}, ab6 wd ys = some l → l.length = ys.length * wd ∧ ∀ (k : Nat) (y : V), ys[k]? = some y → ∃ r, stored y = some r ∧ r.length = wd ∧ ∀ j, j < wd → l[k * wd + j]? = r[j]?
 | [], l, h => by simp [ab6] at h; subst h; exact ⟨by simp, fun k y e => by simp at e⟩
 | y :: ys, l, h => by
   simp only [ab6] at h
   split at h
   ·rename_i r rs h1 h2
    cases h
    obtain ⟨i1, i2⟩ := av7 h2
    unfold rowOf at h1
    split at h1
    ·rename_i l0 hl0
     split at h1
     ·rename_i hlen
      cases h1
      refine ⟨by simp only [List.length_append, i1, hlen, List.length_cons, Nat.add_mul]; omega, fun k z e => ?_⟩
      cases k with
      | zero =>
        simp at e; subst e
        exact ⟨r, hl0, hlen, fun j hj => by rw [Nat.zero_mul, Nat.zero_add, List.getElem?_append_left (by omega)]⟩
      | succ k =>
        obtain ⟨r', e1, e2, e3⟩ := i2 k z (by simpa using e)
        refine ⟨r', e1, e2, fun j hj => ?_⟩
        rw [Nat.add_mul, List.getElem?_append_right (by omega), ← e3 j hj]
        congr 1; omega
     ·cases h1
    ·cases h1
   ·cases h
theorem done_bsl (h : StR w g tmps st) {o : Oper} {d k rb wd T n : Nat} {parts : Array (Nat × Operand)} {xs : List AO} (hd : o.dst = some d) (hlt : d < tmps.size) (hf : Fr g st.nx rb (.bsl d k wd xs)) (ho : o.op = .buildSlice T n parts)
  (hb : bslOk P T n wd xs.length = true) (hp : aj2 0 parts.toList xs = true) (hx : q9 rb st (.bsl d k wd xs) = some st') :
  be3 P w g o { tmps, defers := ds } st st' (NewD rb (.bsl d k wd xs)) := by
 simp only [bslOk, Bool.and_eq_true, beq_iff_eq, decide_eq_true_eq] at hb
 obtain ⟨⟨rfl, b2⟩, b3⟩ := hb
 split at b3
 ·rename_i el hu
  simp only [Bool.and_eq_true, beq_iff_eq] at b3
  obtain ⟨b3, b4⟩ := b3
  simp only [q9] at hx
  cases hr : ab6 wd (ae5 st.sl xs) with
  | none => rw [hr] at hx; cases hx
  | some l =>
    rw [hr] at hx
    cases hx
    obtain ⟨p1, p2⟩ := seq_sound 0 parts.toList xs hp
    have y2 := fun j y a => au6 (ds := ds) h.sl p2 j y a
    obtain ⟨r1, r2⟩ := av7 hr
    have hyl : (ae5 st.sl xs).length = xs.length := by simp [ae5]
    let ev := Act.eval { tmps, defers := ds }
    generalize hvs : (parts.toList.map fun p => ev p.2) = vs
    have hpl : parts.toList.length = xs.length := by have := aj3 p2; simpa using this
    have hvl : vs.length = xs.length := by rw [← hvs, List.length_map, hpl]
    have hrel : ∀ (k : Nat) (v : Value), vs[k]? = some v → ∃ y r, (ae5 st.sl xs)[k]? = some y ∧ stored y = some r ∧ r.length = wd ∧ (∀ j, j < wd → l[k * wd + j]? = r[j]?) ∧ VR g y v := by
     intro k v hv
     rw [← hvs] at hv
     obtain ⟨p, q1, q2⟩ := map_get hv
     have hk : k < (ae5 st.sl xs).length := by rw [hyl, ← hpl]; exact ai4 q1
     have ey : (ae5 st.sl xs)[k]? = some (ae5 st.sl xs)[k] := List.getElem?_eq_getElem hk
     obtain ⟨r, e1, e2, e3⟩ := r2 k _ ey
     have ea : (parts.toList.map (·.2))[k]? = some p.2 := by rw [List.getElem?_map, q1]; rfl
     exact ⟨_, r, ey, e1, e2, e3, by rw [← q2]; exact y2 k _ _ ey ea⟩
    have hsz : ∀ v ∈ vs, v.cells.size = wd := by
     intro v hv
     obtain ⟨k, hk, rfl⟩ := List.getElem_of_mem hv
     obtain ⟨y, r, _, e3, e4, _, e5⟩ := hrel k vs[k] (by simp [hk])
     rw [(ab5 e5 e3).1, e4]
    obtain ⟨z, hz⟩ : ∃ z, ∀ w : World, (zeroValue el).run P w = .ok z w := by
     cases hi : P.info? el with
     | none => rw [hi] at b4; cases b4
     | some i =>
       rw [hi] at b4
       simp only [Option.bind_some] at b4
       obtain ⟨z, hz⟩ := Option.isSome_iff_exists.1 b4
       exact ⟨z, fun w => by simp [zeroValue, typeInfo, hi, hz]⟩
    have key : ∀ zero : Array Value, ∃ cells', Instr.fill (fun i => some (i * wd, wd)) ((Array.range (xs.length * wd)).map (zero[· % zero.size]!)) (parts.map fun (i, x) => (i, ev x)).toList = some cells' ∧
      cells'.size = xs.length * wd ∧ ∀ (k j : Nat) (v : Value), vs[k]? = some v → j < wd → cells'[k * wd + j]? = v.cells[j]? := by
     intro zero
     obtain ⟨cells', c1, c2, c3, c4⟩ := fill_rows wd vs 0 ((Array.range (xs.length * wd)).map (zero[· % zero.size]!)) hsz (by simp [hvl])
     refine ⟨cells', ?_, by rw [c2]; simp, fun k j v hk hj => by have := c4 k j v hk hj; rwa [Nat.zero_add] at this⟩
     have : (parts.map fun (i, x) => (i, ev x)).toList = (List.range' 0 vs.length).zip vs := by
      rw [← hvs, ← zip_parts p1 ev]; simp
     rw [this]; exact c1
    obtain ⟨cells', hrun, hcs, hcg⟩ : ∃ cells', (Instr.buildSlice T xs.length (parts.map fun (i, x) => (i, ev x))).run P w = .ok (.slice (some ⟨w.heap.size, 0, none⟩) xs.length xs.length) (w.alloc (.cells cells' el (0, 0))) ∧
      cells'.size = xs.length * wd ∧ ∀ (k j : Nat) (v : Value), vs[k]? = some v → j < wd → cells'[k * wd + j]? = v.cells[j]? := by
     have hle : ¬ (xs.length * wd > 2 ^ 24) := by simp; omega
     by_cases h0 : xs.length * wd = 0
     ·obtain ⟨cells', c1, c2, c3⟩ := key #[]
      refine ⟨cells', ?_, c2, c3⟩
      simp only [Instr.buildSlice, Sem.run_bind, f0 hu, Result.andThen_ok, t7 b3, if_neg hle, h0, if_true, Sem.run_pure, Sem.run_ite]
      rw [h0] at c1
      simp only [c1]
      simp [newRow]
     ·obtain ⟨cells', c1, c2, c3⟩ := key z.cells
      refine ⟨cells', ?_, c2, c3⟩
      simp only [Instr.buildSlice, Sem.run_bind, f0 hu, Result.andThen_ok, t7 b3, if_neg hle, if_neg h0, Sem.run_pure, Sem.run_ite, hz]
      simp only [c1]
      simp [newRow]
    have hp : Plain g l cells' := by
     refine ⟨by rw [hcs, r1, hyl], fun j x v e1 e2 => ?_⟩
     have hj : j < xs.length * wd := by have := ai4 e1; rw [r1, hyl] at this; exact this
     have hpos : 0 < wd := by
      rcases Nat.eq_zero_or_pos wd with h | h
      ·rw [h] at hj; simp at hj
      ·exact h
     have hi : j / wd < vs.length := by rw [hvl]; exact Nat.div_lt_of_lt_mul (by rw [Nat.mul_comm]; exact hj)
     have hm : j % wd < wd := Nat.mod_lt _ hpos
     obtain ⟨y, r, _, e3, e4, e5, e6⟩ := hrel (j / wd) vs[j / wd] (by simp [hi])
     have q1 := hcg (j / wd) (j % wd) vs[j / wd] (by simp [hi]) hm
     have q2 := e5 (j % wd) hm
     rw [Nat.div_add_mod'] at q1 q2
     rw [e1] at q2
     rw [e2] at q1
     exact (ab5 e6 e3).2 (j % wd) x v q2.symm q1.symm
    have hrun' : (Instr.buildSlice T xs.length (parts.map fun x => (x.fst, Act.eval { tmps, defers := ds } x.snd))).run P w = .ok (.slice (some ⟨w.heap.size, 0, none⟩) xs.length xs.length) (w.alloc (.cells cells' el (0, 0))) := hrun
    refine ax7 (rest := #[]) (gr := false) h (WEq.refl w) rfl hd hlt hf hp (by simp [hcs]) (Nat.le_refl _) (fun _ => rfl) (T := el) ?_
    simp only [execOp, ho]; simp only [Sem.run_bind, hrun', Result.andThen_ok, Array.append_empty]; rfl
 ·cases b3
end
end Go.B
