/-
  Slices made: an empty one of one's own, one of zeros. Program-independent.
-/
import Derived.Test.YtpfocppjojgooaaAbsLc
set_option linter.unusedSimpArgs false
set_option linter.unusedVariables false
namespace Go.Abs

section
variable {P : Program} {w w' : World} {g g' : Gh} {tmps tmps' : Array Value} {st st' : St} {G G' : Env} {ds : List Deferred}

theorem done_bsx {fz : Bool} (h : StR w g tmps st) (he : EnvR w tmps st G) {o : Oper} {d wd T : Nat} (hd : o.dst = some d) (ho : o.op = .buildSlice T 0 #[]) (hT : sliceEl P T wd = true) :
    Done P w g o { tmps, defers := ds } (st.put d (.e (.c (ownC fz wd [])))) (kill G d) := by
  unfold sliceEl at hT
  split at hT
  · rename_i el hu
    simp only [beq_iff_eq] at hT
    have hrun : (Instr.buildSlice T 0 #[]).run P w = .ok (.slice (some ⟨w.heap.size, 0, none⟩) 0 0) (w.alloc (.cells #[] el (0, 0))) := by
      simp [Instr.buildSlice, run_under hu, run_sz hT, Result.andThen, Instr.fill, newRow, show Array.range 0 = #[] from rfl]
    have s : Stp w g (w.alloc (.cells #[] el (0, 0))) (g.add w [0, d] (fun _ => False) false) Never := Stp.alloc w g _ [0, d] (fun _ => False) false h.fz Never (fun h => h)
    have hno : ∀ i, ¬ (g.add w [0, d] (fun _ => False) false).Fz w.heap.size i := by
      intro i hi
      rcases hi with hi | ⟨_, hi⟩
      · have := h.fz _ _ hi; omega
      · exact hi
    have hx : SVR (w.alloc (.cells #[] el (0, 0))) (g.add w [0, d] (fun _ => False) false) [0, d] (.e (.c (ownC fz wd []))) (.slice (some ⟨w.heap.size, 0, none⟩) 0 0) := by
      refine .e (.c ?_)
      cases fz
      · exact .ex wd [] w.heap.size 0 #[] el (fun _ _ => undef) (by simp [Gh.add]) (by simp) (alloc_get_new _ _) (by simp) (Nat.le_refl _) (fun i row e => by simp at e) (fun i j row x e => by simp at e) hno
      · exact .os wd [] w.heap.size 0 #[] el (fun _ _ => undef) (by simp [Gh.add]) (by simp) (alloc_get_new _ _) (by simp) (Nat.le_refl _) (fun i row e => by simp at e) (fun i j row x e => by simp at e) (fun i hi => (hno i hi).elim)
    refine ⟨_, _, _, _, by simp only [execOp, ho]; simp only [Array.map_empty, Sem.run_bind, hrun, Result.andThen_ok]; rfl, .inl rfl, ?_, ?_, s.mono (fun _ h => h.elim) nn⟩
    · rw [hd]; exact h.put s d _ _ (fun _ h => h.elim) rfl hx (add_fz h _ _ _ _) (add_om h _ _ _ _)
    · rw [hd]; exact he.killed h s d _ _ (fun _ h => h.elim)
  · cases hT

theorem wrap_small {k : Int} (h0 : 0 ≤ k) (h1 : k ≤ 1073741824) : IntKind.i64.wrap k = k := by
  simp [IntKind.wrap, IntKind.bits, IntKind.signed]
  omega

theorem run_makeSlice {T el wd bytes : Nat} {kk kk2 : IntKind} {k : Int} {z : Value} (hu : P.underlying T = some (.slice el)) (hs : szT P el = some wd) (hb : bytesT P el = some bytes) (hz : ∀ w : World, (zeroValue el).run P w = .ok z w)
    (h0 : 0 ≤ k) (h1 : bytes * k ≤ 281474976710656) (h2 : k ≤ 1073741824) :
    (Instr.makeSlice T (.int kk k) (.int kk2 k)).run P w = .ok (.slice (some ⟨w.heap.size, 0, none⟩) k.toNat k.toNat) (w.alloc (.cells ((Array.range (k.toNat * wd)).map fun i => (if k.toNat * wd = 0 then #[] else z.cells)[i % (if k.toNat * wd = 0 then #[] else z.cells).size]!) el (0, 0))) := by
  cases hi : P.info? el with
  | none => simp [bytesT, hi] at hb
  | some ti =>
    have hbt : ti.bytes = bytes := by simpa [bytesT, hi] using hb
    have hti : (typeInfo el).run P w = .ok ti w := by simp [typeInfo, hi]
    have hneg : ¬ (k < 0) := by omega
    have hbig : ¬ ((bytes : Int) * k > 2 ^ 48) := by simpa using h1
    simp only [Instr.makeSlice, Sem.run_bind, run_under hu, Result.andThen_ok, asInt, asIntOf, Sem.run_pure, hti, wrap_small h0 h2, hbt]
    have hc : (decide (k < 0) || decide ((bytes : Int) * k > 2 ^ 48) || decide (k < 0) || decide (k > k)) = false := by simp [hneg]; omega
    rw [if_neg (by rw [hc]; simp)]
    simp only [Sem.run_bind, run_askRoom, Result.andThen_ok, run_sz hs]
    by_cases hn : k.toNat * wd = 0
    · simp [hn, newRow]
    · simp [hn, newRow, hz, Result.andThen]

theorem done_mks (h : StR w g tmps st) (he : EnvR w tmps st G) {o : Oper} {d T el wd bytes : Nat} {a b : Operand} {n : AO} {zero : List TV} (hd : o.dst = some d) (ho : o.op = .makeSlice T a b) (ha : opd a n = true) (hab : opd b n = true)
    (hu : P.underlying T = some (.slice el)) (hs : szT P el = some wd) (hb : bytesT P el = some bytes) (hz : zeroIs P el zero = true) (hx : exop st (.mks d n wd bytes zero) = some st') :
    Done P w g o { tmps, defers := ds } st' (kill G d) := by
  simp only [exop] at hx
  split at hx
  · rename_i k e1
    split at hx
    · rename_i hh
      obtain ⟨h0, h1, hl, h2⟩ := hh
      cases hx
      obtain ⟨kk, hk⟩ := evI_sound (ds := ds) h ha e1
      obtain ⟨kk2, hk2⟩ := evI_sound (ds := ds) h hab e1
      obtain ⟨z, z1, z2⟩ := zero_plain (w := w) (g := g) hz
      have hrun := run_makeSlice (P := P) (w := w) (kk := kk) (kk2 := kk2) hu hs hb z1 h0 h1 h2
      generalize harr : ((Array.range (k.toNat * wd)).map fun i => (if k.toNat * wd = 0 then #[] else z.cells)[i % (if k.toNat * wd = 0 then #[] else z.cells).size]!) = arr at hrun
      have hsz : arr.size = k.toNat * wd := by rw [← harr]; simp
      have hzs : z.cells.size = wd := by rw [z2.1]; simpa using hl
      have hget : ∀ r j, r < k.toNat → j < wd → arr[r * wd + j]? = z.cells[j]? := by
        intro r j hr hj
        have hlt : r * wd + j < k.toNat * wd := idx_lt hr hj
        have hne : ¬ (k.toNat * wd = 0) := by omega
        rw [← harr]
        simp only [if_neg hne, hzs]
        rw [Array.getElem?_map, Array.getElem?_range]
        rw [if_pos hlt] 
        have hm : (r * wd + j) % wd = j := by rw [Nat.mul_comm, Nat.mul_add_mod]; exact Nat.mod_eq_of_lt hj
        simp only [Option.map_some, hm]
        have : j < z.cells.size := by omega
        simp [this]
      generalize hg : g.add w [1, g.n] (fun _ => False) true = g1
      have s : Stp w g (w.alloc (.cells arr el (0, 0))) g1 Never := hg ▸ Stp.alloc w g _ [1, g.n] (fun _ => False) true h.fz Never (fun h => h)
      have hbe : g1.be g.n = w.heap.size := hg ▸ new_be w g _ _
      have hnn : g1.n = g.n + 1 := hg ▸ new_n w g _ _
      have hom : g1.om w.heap.size = [1, g.n] := by rw [← hg]; simp [Gh.add]
      have hzz : ∀ i, ¬ g1.Fz w.heap.size i := by
        intro i hi
        rw [← hg] at hi
        rcases hi with hi | ⟨_, hi⟩
        · have := h.fz _ _ hi; omega
        · exact hi
      have hxx : SVR (w.alloc (.cells arr el (0, 0))) g1 [0, d] (.e (.c (.sl st.h.length wd 0 k.toNat))) (.slice (some ⟨w.heap.size, 0, none⟩) k.toNat k.toNat) := by
        have := ACR.sl (w := w.alloc (.cells arr el (0, 0))) (g := g1) (own := [0, d]) st.h.length wd 0 k.toNat k.toNat 0 (Nat.le_refl _) (by rw [hnn, h.n]; omega) (fun _ => by simp)
        rw [← h.n, hbe] at this
        rw [← h.n]
        exact .e (.c this)
      have hbb : HBR (w.alloc (.cells arr el (0, 0))) g1 st.h.length (.rows wd (List.replicate k.toNat (zero.map .t))) := by
        rw [← h.n]
        refine ⟨arr, el, by rw [hbe]; exact alloc_get_new _ _, by rw [hbe]; exact hom, by rw [hbe]; exact hzz, by simp [hsz], fun r row e => ?_, fun r j row x q1 q2 => ?_⟩
        · rw [List.getElem?_replicate] at e
          split at e
          · cases e; simpa using hl
          · cases e
        · rw [List.getElem?_replicate] at q1
          split at q1
          · rename_i hr
            cases q1
            have hj : j < wd := by have := get_lt q2; simpa [hl] using this
            have hjz : j < z.cells.size := by omega
            have hzj : z.cells[j]? = some z.cells[j] := by simp [hjz]
            obtain ⟨k1, k2⟩ := (z2.step s rfl).2 j x _ q2 hzj
            exact ⟨_, (hget r j hr hj).trans hzj, k1, k2 _⟩
          · cases q1
      refine ⟨_, _, _, g1, by simp only [execOp, ho, hk, hk2]; simp only [Sem.run_bind, hrun, Result.andThen_ok]; rfl, .inl rfl, ?_, ?_, s.mono (fun _ h => h.elim) nn⟩
      · rw [hd]; exact h.grow s d _ _ _ hnn hxx hbb (hg ▸ add_fz h _ _ _ _) (hg ▸ add_om h _ _ _ _)
      · rw [hd]; exact he.grow h s d _ _ _
    · cases hx
  · cases hx

/- clear, of a part of a block -/
theorem mid_get {α : Type} (rs : List α) (z : α) (r n i : Nat) (h : r + n ≤ rs.length) : (rs.take r ++ List.replicate n z ++ rs.drop (r + n))[i]? = if r ≤ i ∧ i < r + n then some z else rs[i]? := by
  have hl : (rs.take r).length = r := by simp; omega
  by_cases h1 : i < r
  · rw [List.append_assoc, List.getElem?_append_left (by omega), if_neg (by omega), List.getElem?_take_of_lt h1]
  · by_cases h2 : i < r + n
    · rw [if_pos (by omega), List.append_assoc, List.getElem?_append_right (by omega), hl, List.getElem?_append_left (by simp; omega), List.getElem?_replicate, if_pos (by omega)]
    · rw [if_neg (by omega), List.getElem?_append_right (by simp; omega)]
      simp only [List.length_append, hl, List.length_replicate, List.getElem?_drop]
      congr 1; omega

theorem done_clr (h : StR w g tmps st) (he : EnvR w tmps st G) {o : Oper} {T el wd : Nat} {a : Operand} {x : AO} {zero : List TV} (hd : o.dst = none) (ho : o.op = .call { callee := .builtin .clear, args := #[a], argTypes := #[T] }) (ha : opd a x = true)
    (hu : P.underlying T = some (.slice el)) (hz : zeroIs P el zero = true) (hx : exop st (.clr x wd zero) = some st') :
    Done P w g o { tmps, defers := ds } st' G := by
  simp only [exop] at hx
  split at hx
  · rename_i blk wd' r len e1
    split at hx
    · rename_i w2 rs e3
      split at hx
      · rename_i hh
        obtain ⟨rfl, rfl, hl, hle⟩ := hh
        cases hx
        have hv := evr_c (opd_sound (ds := ds) h ha e1 [])
        generalize hev : Act.eval { tmps, defers := ds } a = v at hv
        cases hv with
        | sl _ _ _ _ cap off hcap hlt hoff =>
        obtain ⟨arr, Ty, f1, f2, f3, f4, f5, f6⟩ := h.hp blk _ e3
        obtain ⟨z, z1, z2⟩ := zero_plain (w := w) (g := g) hz
        have hzs : z.cells.size = wd := by rw [z2.1]; simpa using hl
        by_cases hlen : len = 0
        · subst hlen
          refine ⟨.value (.tuple #[]), _, w, g, ?_, .inl rfl, ?_, ?_, Stp.refl w g _ nn⟩
          · simp [execOp, ho, hev, resolve, invoke, builtin, Builtin.clear_, run_under hu, Result.andThen]
          · rw [hd]
            have : st.h.set blk (.rows wd (rs.take r ++ List.replicate 0 (zero.map .t) ++ rs.drop (r + 0))) = st.h := by
              simp only [List.replicate_zero, List.append_nil, Nat.add_zero, List.take_append_drop]
              apply List.ext_getElem?
              intro j
              by_cases hj : blk = j
              · subst hj; rw [List.getElem?_set_self (get_lt e3), e3]
              · rw [List.getElem?_set_ne hj]
            rw [this]; exact h
          · rw [hd]; exact he.step h (Stp.refl w g Never (fun h => h)) (fun t r hr => ⟨hr, rfl, rfl, fun s col e => ⟨fun h => h, rfl⟩⟩)
        · have hof := hoff hlen
          subst hof
          have hbnd : (r + len) * wd ≤ rs.length * wd := Nat.mul_le_mul_right wd hle
          rw [Nat.add_mul] at hbnd
          generalize hzc : (Builtin.zeroCells z.cells len).toList = zc
          have hzcl : zc.length = len * wd := by rw [← hzc]; simp [Builtin.zeroCells, hzs]
          have hzcg : ∀ k j, k < len → j < wd → zc[k * wd + j]? = z.cells[j]? := by
            intro k j hk hj
            have hlt : k * wd + j < len * wd := idx_lt hk hj
            rw [← hzc, Array.getElem?_toList]
            simp only [Builtin.zeroCells, hzs]
            rw [Array.getElem?_map, Array.getElem?_range, if_pos hlt]
            have hm : (k * wd + j) % wd = j := by rw [Nat.mul_comm, Nat.mul_add_mod]; exact Nat.mod_eq_of_lt hj
            simp only [Option.map_some, hm]
            have : j < z.cells.size := by omega
            simp [this]
          have hz1 : ∀ u ∈ zc, u.oneCell' = true := by
            intro u hu'
            rw [← hzc] at hu'
            simp only [Builtin.zeroCells, Array.toList_map, List.mem_map, Array.toList_range, List.mem_range, hzs] at hu'
            obtain ⟨i, hi, rfl⟩ := hu'
            have hwd : 0 < wd := by
              rcases Nat.eq_zero_or_pos wd with h0 | h0
              · subst h0; simp at hi
              · exact h0
            have hm : i % wd < z.cells.size := by rw [hzs]; exact Nat.mod_lt _ hwd
            simp only [hm, getElem!_pos]
            exact plain_one z2 _ (by simp)
          have hst := run_storeCells_at P (g.be blk) (r * wd) Ty zc 0 arr w f1 (by rw [hzcl]; omega) hz1
          simp only [Nat.add_zero] at hst
          generalize harr : (arr.toList.take (r * wd) ++ zc ++ arr.toList.drop (r * wd + zc.length)).toArray = arr' at hst
          have s1 : Stp w g (w.setRow (g.be blk) arr') g (atBlk blk) :=
            Stp.write w _ g (g.be blk) _ (by simp [atBlk]) f2 (by simp) (fun d hd => setRow_other w _ d arr' hd) (fun o h => (f3 o h).elim) rfl rfl
          have hcol : r * wd + zc.length ≤ arr.size := by omega
          have hget : ∀ j, arr'[j]? = if r * wd ≤ j ∧ j < r * wd + len * wd then zc[j - r * wd]? else arr[j]? := by
            intro j; rw [← harr, splice_get arr _ _ j hcol, hzcl]
          have hb' : HBR (w.setRow (g.be blk) arr') g blk (.rows wd (rs.take r ++ List.replicate len (zero.map .t) ++ rs.drop (r + len))) := by
            refine ⟨arr', Ty, setRow_heap w _ arr arr' Ty _ f1, f2, f3, ?_, fun r' row' q => ?_, fun r' j row' y q1 q2 => ?_⟩
            · rw [← harr, splice_size _ _ _ hcol]
              have : (rs.take r ++ List.replicate len (zero.map AC.t) ++ rs.drop (r + len)).length = rs.length := by simp; omega
              rw [this]; exact f4
            · rw [mid_get _ _ _ _ _ hle] at q
              split at q
              · cases q; simpa using hl
              · exact f5 r' row' q
            · rw [mid_get _ _ _ _ _ hle] at q1
              rw [hget]
              split at q1
              · rename_i hr
                cases q1
                have hj : j < wd := by have := get_lt q2; simpa [hl] using this
                obtain ⟨k, rfl⟩ : ∃ k, r' = r + k := ⟨r' - r, by omega⟩
                have hk : k < len := by omega
                have hlt : k * wd + j < len * wd := idx_lt hk hj
                have hidx : (r + k) * wd + j = r * wd + (k * wd + j) := by rw [Nat.add_mul]; omega
                rw [hidx, if_pos (by omega), show r * wd + (k * wd + j) - r * wd = k * wd + j by omega, hzcg k j hk hj]
                have hjz : j < z.cells.size := by omega
                have hzj : z.cells[j]? = some z.cells[j] := by simp [hjz]
                obtain ⟨k1, k2⟩ := z2.2 j y _ q2 hzj
                exact ⟨_, hzj, k1, (k2 _).step s1 (by simp [atBlk])⟩
              · rename_i hr
                obtain ⟨u, u1, u2, u3⟩ := f6 r' j row' y q1 q2
                have hj : j < wd := by rw [← f5 r' row' q1]; exact get_lt q2
                have hnot : ¬ (r * wd ≤ r' * wd + j ∧ r' * wd + j < r * wd + len * wd) := by
                  rintro ⟨a1, a2⟩
                  apply hr
                  constructor
                  · rcases Nat.lt_or_ge r' r with hlt | hge
                    · have := Nat.mul_le_mul_right wd (Nat.succ_le_of_lt hlt)
                      rw [Nat.succ_mul] at this; omega
                    · exact hge
                  · rcases Nat.lt_or_ge r' (r + len) with hlt | hge
                    · exact hlt
                    · have := Nat.mul_le_mul_right wd hge
                      rw [Nat.add_mul] at this; omega
                rw [if_neg hnot]
                exact ⟨u, u1, u2, u3.step s1 (by simp [atBlk])⟩
          refine ⟨.value (.tuple #[]), _, w.setRow (g.be blk) arr', g, ?_, .inl rfl, ?_, ?_, s1.mono (fun o e => by rw [e]; simp) nn⟩
          · have hc : (Builtin.clear_ #[T] o.type #[.slice (some ⟨g.be blk, r * wd, none⟩) len cap]).run P w = .ok (.tuple #[]) (w.setRow (g.be blk) arr') := by
              cases len with
              | zero => exact (hlen rfl).elim
              | succ n =>
                simp [Builtin.clear_, run_under hu, z1, hzc, hst, Result.andThen]
            simp only [execOp, ho, resolve, invoke, builtin, pure_bind, Deferred.target, hev, Sem.run_bind]
            simp [hev, hc, Result.andThen]
          · rw [hd]
            exact h.chg s1 rfl (rows_noIt h e3) _ hb' (fun c o h' => by simpa using h.fz c o h') (fun c h' => by simpa using h.om c h')
          · rw [hd]; exact he.chg h s1 _
      · cases hx
    · cases hx
  · cases hx

end
end Go.Abs
