/-
  A deferred call that asks for a panic, finds none, and does nothing.
-/
import Derived.Test.YtagogibgoknncaaGreatDoorBP
import Derived.Test.YtagogibgoknncaaGreatDoorProg
import Derived.RecoverIn
import Derived.KernelRfl
set_option linter.unusedSimpArgs false
set_option linter.unusedVariables false
namespace Go.Proofs.YtagogibgoknncaaGreatDoor
open Go Go.B
section
variable {P : Program} {ops : Array Oper} {Q : Exit → Act → List Frame → World → Prop} {a : Act} {cs : List Frame} {w w' : World} {i : Nat} {rest : List Nat} {o : Oper}
theorem dn_val {v : Value} (ho : ops[i]? = some o) (hg : o.guard = none) (hx : (execOp a.eval o).run P w = .ok (.value v) w') (h : wpOpsSIn (FW none) 0 P ops Q rest (a.put o.dst v) cs w') : wpOpsSIn (FW none) 0 P ops Q (i :: rest) a cs w := by
 simp only [wpOpsSIn, ho]
 refine ⟨fun _ _ => trivial, ?_⟩
 have : Region.wanted o (yielded ops a.tmps) = true := by simp [Region.wanted, hg]
 rw [if_pos this, hx]
 exact h
theorem dn_skip (ho : ops[i]? = some o) (hg : o.guard = none) (hx : (execOp a.eval o).run P w = .ok .skip w') (h : wpOpsSIn (FW none) 0 P ops Q rest (a.put o.dst undef) cs w') : wpOpsSIn (FW none) 0 P ops Q (i :: rest) a cs w := by
 simp only [wpOpsSIn, ho]
 refine ⟨fun _ _ => trivial, ?_⟩
 have : Region.wanted o (yielded ops a.tmps) = true := by simp [Region.wanted, hg]
 rw [if_pos this, hx]
 exact h
theorem dn_rec (ho : ops[i]? = some o) (hg : o.guard = none) (hx : (execOp a.eval o).run P w = .ok .recover w') (hr : recoverD cs = none) (h : wpOpsSIn (FW none) 0 P ops Q rest (a.put o.dst .nilIface) cs w') : wpOpsSIn (FW none) 0 P ops Q (i :: rest) a cs w := by
 simp only [wpOpsSIn, ho]
 refine ⟨fun _ _ => trivial, ?_⟩
 have : Region.wanted o (yielded ops a.tmps) = true := by simp [Region.wanted, hg]
 rw [if_pos this, hx]
 simp only [hr]
 exact h
end
theorem chk1_mono {P : Program} {n m : Nat} (hl : n ≤ m) {o : Oper} {op : AOp} (h : chk1 P n o op = true) : chk1 P m o op = true := by
 simp only [chk1, Bool.and_eq_true] at h ⊢
 refine ⟨?_, h.2⟩
 have h1 := h.1
 split at h1
 ·rename_i d hd
  rw [hd] at *
  simp only [Bool.and_eq_true, decide_eq_true_eq] at h1 ⊢
  exact ⟨h1.1, by omega⟩
 ·rename_i hd
  rw [hd] at *
  exact h1
noncomputable local instance : OkC := ⟨fun _ _ _ => False⟩
theorem as8 {P : Program} {ops : Array Oper} {Q : Exit → Act → List Frame → World → Prop} {a : Act} {cs : List Frame} {w : World} {i : Nat} {rest : List Nat} {o : Oper} {rb : Nat} {g : G} {st st' : St} {w0 : World} {g0 : G} {H0 : Hp}
  (op : AOp) (ho : ops[i]? = some o) (hg : o.guard = none) (hc : chk1 P 14 o op = true) (hn : 14 ≤ a.tmps.size) (h : StR w g a.tmps st) (hf : Fr g st.nx rb op) (s : Stp w0 g0 H0 w g st.h (fun a => rb ≤ a)) (hx : q9 rb st op = some st')
  (next : ∀ (a' : Act) (w' : World) (g' : G), a'.tmps.size = a.tmps.size → a'.defers = a.defers → StR w' g' a'.tmps st' → Stp w0 g0 H0 w' g' st'.h (fun a => rb ≤ a) → (∀ op2 : AOp, Fr g st.nx rb op2 → (∀ k, op.kx = some k → op2.kx ≠ some k) → Fr g' st'.nx rb op2) → wpOpsSIn (FW none) 0 P ops Q rest a' cs w') :
  wpOpsSIn (FW none) 0 P ops Q (i :: rest) a cs w := by
 obtain ⟨tmps, ds⟩ := a
 have hc' := chk1_mono hn hc
 obtain ⟨r, v, w', g', q1, q2, q3, q4⟩ := exop_done (ds := ds) h rfl hc' hf hx
 have hs : Stp w0 g0 H0 w' g' st'.h (fun a => rb ≤ a) := s.trans (q4.mono fun a ⟨k, _, e⟩ => by omega)
 have hnx : st'.nx = st.nx := (as2 hx).1
 have hfr : ∀ op2 : AOp, Fr g st.nx rb op2 → (∀ k, op.kx = some k → op2.kx ≠ some k) → Fr g' st'.nx rb op2 := by
  intro op2 h2 hk k e
  obtain ⟨h3, h4⟩ := h2 k e
  refine ⟨fun hd => ?_, by omega⟩
  rcases q4.dom _ hd with q | ⟨k', q5, q6⟩
  ·exact h3 q
  ·exact hk k' q5 (by rw [e]; congr 1; omega)
 have hsz : (Act.put { tmps, defers := ds } o.dst v).tmps.size = tmps.size := by cases o.dst <;> simp [Act.put]
 have hdf : (Act.put { tmps, defers := ds } o.dst v).defers = ds := by cases o.dst <;> rfl
 rcases q2 with rfl | ⟨rfl, rfl⟩
 ·exact dn_val ho hg q1 (next _ w' g' hsz hdf q3 hs hfr)
 ·exact dn_skip ho hg q1 (next _ w' g' hsz hdf q3 hs hfr)
def g00 : G := { be := fun _ => 0, cz := fun _ => (0, 0), dom := fun _ => False, fz := fun _ _ => none }
theorem hr00 (w : World) (n : Nat) : HR w g00 (fun _ => .no) n := ⟨fun _ => trivial, fun a h => (by cases h), fun a b h => (by cases h), fun a h => h.elim, fun a h => h.elim, fun c o v h => (by cases h)⟩
theorem wext_of {w w' : World} {g g' : G} {H' : Hp} {D : Nat → Prop} (s : Stp w g (fun _ => .no) w' g' H' D) : WExt w w' := ⟨s.size, fun c hc => s.keep c hc (fun a ha => (by cases ha)), s.out, s.os⟩
set_option maxRecDepth 10000 in
theorem dnop130 : DNop Tryz.prog 130 := by
 refine ⟨⟨Tryz.f130, Tryz.func130, by kernel_rfl, rfl⟩, fun args w => ?_⟩
 refine callsDIn_of_wpSIn Tryz.func130 rfl trivial (fun c0 cs hm => ?_)
 have hrec : recoverD (c0 :: cs) = none := by simp only [recoverD, hm]
 generalize ha : ({ tmps := args ++ Array.replicate (Tryz.f130.ntmps - args.size) undef, defers := [] } : Act) = a
 have hsz : 14 ≤ a.tmps.size := by
  subst ha
  have : Tryz.f130.ntmps = 14 := by kernel_rfl
  simp [this]; omega
 have hdf : a.defers = [] := by subst ha; rfl
 clear ha
 refine wpSIn_seq (wpSIn_region ?_)
 refine dn_rec (i := 0) rfl rfl (w' := w) rfl hrec ?_
 generalize ha1 : a.put _ Value.nilIface = a1
 have hsz1 : 14 ≤ a1.tmps.size := by subst ha1; simpa [Act.put] using hsz
 have hdf1 : a1.defers = [] := by subst ha1; exact hdf
 have h5 : a1.eval (.tmp 5) = .nilIface := by
  subst ha1
  have h6 : 5 < a.tmps.size := by omega
  show ((a.tmps.setIfInBounds 5 Value.nilIface).getD 5 undef) = _
  simp [Array.getD_eq_getD_getElem?, Array.getElem?_setIfInBounds, h6]
 obtain ⟨z, z1, z2⟩ := aa3 (P := Tryz.prog) (g := g00) (T := 194) (zero := [.i .i64 0, .i .i64 0, .i .i64 0]) (by kernel_rfl)
 have hz : ∃ b, z = .agg b := by
  have := z2.1
  cases z <;> first | exact ⟨_, rfl⟩ | (simp [Value.cells] at this; done)
 obtain ⟨b, rfl⟩ := hz
 refine dn_val (i := 1) (v := .tuple #[.agg b, .bool false]) (w' := w) rfl rfl ?_ ?_
 ·simp [execOp, Instr.typeAssert, h5, z1]
 generalize ha2 : a1.put _ (Value.tuple #[.agg b, .bool false]) = a2
 have hsz2 : 14 ≤ a2.tmps.size := by subst ha2; simpa [Act.put] using hsz1
 have hdf2 : a2.defers = [] := by subst ha2; exact hdf1
 have hvz : VR g00 (.ag [.i .i64 0, .i .i64 0, .i .i64 0]) (.agg b) := by
  refine .ag _ b (by have := z2.1; simpa [Value.cells] using this) (fun j v e => ?_) (fun j x v e1 e2 => (z2.2 j x v e1 (by simpa [Value.cells] using e2)).2)
  have hj : j < 3 := by
   have h3 : b.size = 3 := by have := z2.1; simpa [Value.cells] using this
   have := (Array.getElem?_eq_some_iff.1 e).1
   omega
  have e1 : ∃ x, ([.i .i64 0, .i .i64 0, .i .i64 0] : List V)[j]? = some x := ⟨_, List.getElem?_eq_getElem (by simpa using hj)⟩
  obtain ⟨x, e1⟩ := e1
  exact (z2.2 j x v e1 (by simpa [Value.cells] using e)).1
 have h2 : SlR g00 a2.tmps (upd (fun _ => .und) 6 (.tu [.ag [.i .i64 0, .i .i64 0, .i .i64 0], .b false])) := by
  subst ha2
  have h6 : 6 < a1.tmps.size := by omega
  refine SlR.put (g := g00) (fun s => .und _) h6 ?_
  refine .tu _ _ rfl (fun j x v e1 e2 => ?_)
  match j with
  | 0 => cases e1; cases e2; exact hvz
  | 1 => cases e1; cases e2; exact .b false
  | j + 2 => simp at e1
 have hst : StR w g00 a2.tmps ⟨upd (fun _ => .und) 6 (.tu [.ag [.i .i64 0, .i .i64 0, .i .i64 0], .b false]), fun _ => .no, 1, []⟩ := ⟨h2, hr00 w 1⟩
 clear ha1 ha2 h5
 have fr0 : ∀ op : AOp, op.kx = none → ∀ (g : G) (nx : Nat), Fr g nx 0 op := fun op e g nx k e2 => (by rw [e] at e2; cases e2)
 have frn : Fr g00 1 0 (.new 2 0 [.i .i64 0, .i .i64 0, .i .i64 0]) := fun k e => (by cases e; exact ⟨fun h => h, by omega⟩)
 refine as8 (i := 2) (rb := 0) (.set 4 (.mov (.s 6))) rfl rfl (by kernel_rfl) hsz2 hst (fr0 _ rfl _ _) (Stp.refl w g00 _ _) rfl (fun a3 w3 g3 n3 d3 hst3 s3 f3 => ?_)
 refine as8 (i := 3) (rb := 0) (.set 7 (.ext (.s 4) 0)) rfl rfl (by kernel_rfl) (by omega) hst3 (fr0 _ rfl _ _) s3 rfl (fun a4 w4 g4 n4 d4 hst4 s4 f4 => ?_)
 refine as8 (i := 4) (rb := 0) (.set 8 (.ext (.s 4) 1)) rfl rfl (by kernel_rfl) (by omega) hst4 (fr0 _ rfl _ _) s4 rfl (fun a5 w5 g5 n5 d5 hst5 s5 f5 => ?_)
 have frn := f5 _ (f4 _ (f3 _ frn (fun k e => (by cases e))) (fun k e => (by cases e))) (fun k e => (by cases e))
 refine as8 (i := 5) (rb := 0) (.new 2 0 [.i .i64 0, .i .i64 0, .i .i64 0]) rfl rfl (by kernel_rfl) (by omega) hst5 frn s5 rfl (fun a6 w6 g6 n6 d6 hst6 s6 f6 => ?_)
 refine as8 (i := 6) (rb := 0) (.stp (.s 2) 3 (.s 7)) rfl rfl (by kernel_rfl) (by omega) hst6 (fr0 _ rfl _ _) s6 rfl (fun a7 w7 g7 n7 d7 hst7 s7 f7 => ?_)
 refine as8 (i := 7) (rb := 0) (.set 3 (.mov (.s 8))) rfl rfl (by kernel_rfl) (by omega) hst7 (fr0 _ rfl _ _) s7 rfl (fun a8 w8 g8 n8 d8 hst8 s8 f8 => ?_)
 refine wpSIn_seq (wpSIn_region ?_)
 refine as8 (i := 0) (rb := 0) (.set 9 (.mov (.s 3))) rfl rfl (by kernel_rfl) (by omega) hst8 (fr0 _ rfl _ _) s8 rfl (fun a9 w9 g9 n9 d9 hst9 s9 f9 => ?_)
 have hv9 : a9.eval (.tmp 9) = .bool false := vr_b (hst9.sl 9)
 refine wpSIn_cond hv9 (wpSIn_of_wpIn rfl (wpIn_skip ?_))
 refine ⟨by rw [d9, d8, d7, d6, d5, d4, d3, hdf2], .returning, by rw [← hm], ?_⟩
 exact ⟨.tuple #[], by kernel_rfl, ⟨_, rfl⟩, rfl, wext_of s9⟩
set_option maxRecDepth 10000 in
theorem dnop146 : DNop Tryz.prog 146 := by
 refine ⟨⟨Tryz.f146, Tryz.func146, by kernel_rfl, rfl⟩, fun args w => ?_⟩
 refine callsDIn_of_wpSIn Tryz.func146 rfl trivial (fun c0 cs hm => ?_)
 have hrec : recoverD (c0 :: cs) = none := by simp only [recoverD, hm]
 generalize ha : ({ tmps := args ++ Array.replicate (Tryz.f146.ntmps - args.size) undef, defers := [] } : Act) = a
 have hsz : 14 ≤ a.tmps.size := by
  subst ha
  have : Tryz.f146.ntmps = 14 := by kernel_rfl
  simp [this]; omega
 have hdf : a.defers = [] := by subst ha; rfl
 clear ha
 refine wpSIn_seq (wpSIn_region ?_)
 refine dn_rec (i := 0) rfl rfl (w' := w) rfl hrec ?_
 generalize ha1 : a.put _ Value.nilIface = a1
 have hsz1 : 14 ≤ a1.tmps.size := by subst ha1; simpa [Act.put] using hsz
 have hdf1 : a1.defers = [] := by subst ha1; exact hdf
 have h5 : a1.eval (.tmp 5) = .nilIface := by
  subst ha1
  have h6 : 5 < a.tmps.size := by omega
  show ((a.tmps.setIfInBounds 5 Value.nilIface).getD 5 undef) = _
  simp [Array.getD_eq_getD_getElem?, Array.getElem?_setIfInBounds, h6]
 obtain ⟨z, z1, z2⟩ := aa3 (P := Tryz.prog) (g := g00) (T := 224) (zero := [.i .i64 0, .i .i64 0, .i .i64 0]) (by kernel_rfl)
 have hz : ∃ b, z = .agg b := by
  have := z2.1
  cases z <;> first | exact ⟨_, rfl⟩ | (simp [Value.cells] at this; done)
 obtain ⟨b, rfl⟩ := hz
 refine dn_val (i := 1) (v := .tuple #[.agg b, .bool false]) (w' := w) rfl rfl ?_ ?_
 ·simp [execOp, Instr.typeAssert, h5, z1]
 generalize ha2 : a1.put _ (Value.tuple #[.agg b, .bool false]) = a2
 have hsz2 : 14 ≤ a2.tmps.size := by subst ha2; simpa [Act.put] using hsz1
 have hdf2 : a2.defers = [] := by subst ha2; exact hdf1
 have hvz : VR g00 (.ag [.i .i64 0, .i .i64 0, .i .i64 0]) (.agg b) := by
  refine .ag _ b (by have := z2.1; simpa [Value.cells] using this) (fun j v e => ?_) (fun j x v e1 e2 => (z2.2 j x v e1 (by simpa [Value.cells] using e2)).2)
  have hj : j < 3 := by
   have h3 : b.size = 3 := by have := z2.1; simpa [Value.cells] using this
   have := (Array.getElem?_eq_some_iff.1 e).1
   omega
  have e1 : ∃ x, ([.i .i64 0, .i .i64 0, .i .i64 0] : List V)[j]? = some x := ⟨_, List.getElem?_eq_getElem (by simpa using hj)⟩
  obtain ⟨x, e1⟩ := e1
  exact (z2.2 j x v e1 (by simpa [Value.cells] using e)).1
 have h2 : SlR g00 a2.tmps (upd (fun _ => .und) 6 (.tu [.ag [.i .i64 0, .i .i64 0, .i .i64 0], .b false])) := by
  subst ha2
  have h6 : 6 < a1.tmps.size := by omega
  refine SlR.put (g := g00) (fun s => .und _) h6 ?_
  refine .tu _ _ rfl (fun j x v e1 e2 => ?_)
  match j with
  | 0 => cases e1; cases e2; exact hvz
  | 1 => cases e1; cases e2; exact .b false
  | j + 2 => simp at e1
 have hst : StR w g00 a2.tmps ⟨upd (fun _ => .und) 6 (.tu [.ag [.i .i64 0, .i .i64 0, .i .i64 0], .b false]), fun _ => .no, 1, []⟩ := ⟨h2, hr00 w 1⟩
 clear ha1 ha2 h5
 have fr0 : ∀ op : AOp, op.kx = none → ∀ (g : G) (nx : Nat), Fr g nx 0 op := fun op e g nx k e2 => (by rw [e] at e2; cases e2)
 have frn : Fr g00 1 0 (.new 2 0 [.i .i64 0, .i .i64 0, .i .i64 0]) := fun k e => (by cases e; exact ⟨fun h => h, by omega⟩)
 refine as8 (i := 2) (rb := 0) (.set 4 (.mov (.s 6))) rfl rfl (by kernel_rfl) hsz2 hst (fr0 _ rfl _ _) (Stp.refl w g00 _ _) rfl (fun a3 w3 g3 n3 d3 hst3 s3 f3 => ?_)
 refine as8 (i := 3) (rb := 0) (.set 7 (.ext (.s 4) 0)) rfl rfl (by kernel_rfl) (by omega) hst3 (fr0 _ rfl _ _) s3 rfl (fun a4 w4 g4 n4 d4 hst4 s4 f4 => ?_)
 refine as8 (i := 4) (rb := 0) (.set 8 (.ext (.s 4) 1)) rfl rfl (by kernel_rfl) (by omega) hst4 (fr0 _ rfl _ _) s4 rfl (fun a5 w5 g5 n5 d5 hst5 s5 f5 => ?_)
 have frn := f5 _ (f4 _ (f3 _ frn (fun k e => (by cases e))) (fun k e => (by cases e))) (fun k e => (by cases e))
 refine as8 (i := 5) (rb := 0) (.new 2 0 [.i .i64 0, .i .i64 0, .i .i64 0]) rfl rfl (by kernel_rfl) (by omega) hst5 frn s5 rfl (fun a6 w6 g6 n6 d6 hst6 s6 f6 => ?_)
 refine as8 (i := 6) (rb := 0) (.stp (.s 2) 3 (.s 7)) rfl rfl (by kernel_rfl) (by omega) hst6 (fr0 _ rfl _ _) s6 rfl (fun a7 w7 g7 n7 d7 hst7 s7 f7 => ?_)
 refine as8 (i := 7) (rb := 0) (.set 3 (.mov (.s 8))) rfl rfl (by kernel_rfl) (by omega) hst7 (fr0 _ rfl _ _) s7 rfl (fun a8 w8 g8 n8 d8 hst8 s8 f8 => ?_)
 refine wpSIn_seq (wpSIn_region ?_)
 refine as8 (i := 0) (rb := 0) (.set 9 (.mov (.s 3))) rfl rfl (by kernel_rfl) (by omega) hst8 (fr0 _ rfl _ _) s8 rfl (fun a9 w9 g9 n9 d9 hst9 s9 f9 => ?_)
 have hv9 : a9.eval (.tmp 9) = .bool false := vr_b (hst9.sl 9)
 refine wpSIn_cond hv9 (wpSIn_of_wpIn rfl (wpIn_skip ?_))
 refine ⟨by rw [d9, d8, d7, d6, d5, d4, d3, hdf2], .returning, by rw [← hm], ?_⟩
 exact ⟨.tuple #[], by kernel_rfl, ⟨_, rfl⟩, rfl, wext_of s9⟩
end Go.Proofs.YtagogibgoknncaaGreatDoor
