/-
  What a call hands back, seen otherwise: slices of one's own as trees, as blocks; blocks as trees. Program-independent.
-/
import Derived.Test.YtpfocppjojgooaaAbsQ
set_option linter.unusedSimpArgs false
set_option linter.unusedVariables false
namespace Go.Abs

def frA : AC → AC
  | .os _ rows | .ex _ rows => .t (.ts rows)
  | x => x
def frE : EV → EV
  | .c x => .c (frA x)
  | .ag xs => .ag (xs.map frA)
def frS : SV → SV
  | .e x => .e (frE x)
  | .tu xs => .tu (xs.map frE)
  | .bx cs => .bx cs

def tCss : List (List AC) → Option (List (List TV))
  | [] => some []
  | x :: xs => match tCs x, tCss xs with
    | some a, some as => some (a :: as)
    | _, _ => none
theorem tCss_get : ∀ {xs : List (List AC)} {ys : List (List TV)}, tCss xs = some ys → ys.length = xs.length ∧ ∀ (i : Nat) (y : List TV), ys[i]? = some y → ∃ x, xs[i]? = some x ∧ tCs x = some y
  | [], ys, h => by simp [tCss] at h; subst h; exact ⟨rfl, fun i y e => by simp at e⟩
  | x :: xs, ys, h => by
    simp only [tCss] at h
    split at h
    · rename_i a as h1 h2
      cases h
      obtain ⟨i1, i2⟩ := tCss_get h2
      refine ⟨by simp [i1], fun i y e => ?_⟩
      cases i with
      | zero => simp at e; subst e; exact ⟨x, rfl, h1⟩
      | succ i => obtain ⟨z, z1, z2⟩ := i2 i y (by simpa using e); exact ⟨z, by simpa using z1, z2⟩
    · cases h

section
variable {P : Program} {w w' : World} {g g' g2 : Gh}

/-- all that is owned under p is frozen, and owned no more -/
noncomputable def Gh.fzU (g : Gh) (w : World) (p : List Nat) : Gh := by
  classical exact { Fz := fun c o => g.Fz c o ∨ (Under p (g.om c) ∧ c < w.heap.size), be := g.be, n := g.n, om := fun c => if Under p (g.om c) then [] else g.om c }
theorem fzU_om {g : Gh} {w : World} {p : List Nat} {c : Nat} (h : (g.fzU w p).om c ≠ []) : (g.fzU w p).om c = g.om c ∧ ¬ Under p (g.om c) := by
  by_cases hu : Under p (g.om c)
  · simp [Gh.fzU, hu] at h
  · simp [Gh.fzU, hu]
theorem fzU_other {g : Gh} {w : World} {p : List Nat} {c : Nat} (hu : ¬ Under p (g.om c)) : (g.fzU w p).om c = g.om c := by simp [Gh.fzU, hu]
theorem under_nil {p : List Nat} (hp : p ≠ []) : ¬ Under p [] := by rintro ⟨q, hq⟩; cases p with | nil => exact hp rfl | cons a l => cases hq
theorem Stp.fzU (w : World) (g : Gh) {p : List Nat} (hp : p ≠ []) : Stp w g w (g.fzU w p) (Under p) := by
  refine ⟨Nat.le_refl _, fun _ _ _ => rfl, fun c o h => ⟨.inl h, rfl⟩, fun c o h => ?_, fun c _ h => fzU_other h, fun c h => .inr ?_, fun _ _ => rfl, Nat.le_refl _, rfl, rfl, under_nil hp⟩
  · rcases h with h | ⟨h, _⟩
    · exact .inl h
    · exact .inr (.inr h)
  · have := fzU_om h
    rw [← this.1]; exact h

theorem ACR.fr {p own own2 : List Nat} (hp : p ≠ []) {x : AC} {v : Value} (h : ACR w g own x v) (hu : Under p own) : ACR w (g.fzU w p) own2 (frA x) v := by
  have s := Stp.fzU w g hp
  cases h with
  | t h => exact .t (h.mono s.fz)
  | und => exact .und
  | os wd rows c cap arr Ty u hom hne hbk hsz hcap hw hc hz =>
    refine .t (.ts rows wd c 0 cap u hw hcap (fun i j row x e1 e2 => ⟨.inr ⟨hom ▸ hu, heap_lt hbk⟩, ?_⟩) (fun i j row x e1 e2 => ?_) (fun i j row x e1 e2 => (hc i j row x e1 e2).2.2.1))
    · rw [cell_of_block hbk, Nat.zero_add]; exact (hc i j row x e1 e2).2.1
    · exact (hc i j row x e1 e2).2.2.2.mono s.fz
  | ex wd rows c cap arr Ty u hom hne hbk hsz hcap hw hc hz =>
    refine .t (.ts rows wd c 0 cap u hw hcap (fun i j row x e1 e2 => ⟨.inr ⟨hom ▸ hu, heap_lt hbk⟩, ?_⟩) (fun i j row x e1 e2 => ?_) (fun i j row x e1 e2 => (hc i j row x e1 e2).2.1))
    · rw [cell_of_block hbk, Nat.zero_add]; exact (hc i j row x e1 e2).1
    · exact (hc i j row x e1 e2).2.2.mono s.fz
  | tp row col c o u hc => exact .tp row col c o u (fun j x e => by obtain ⟨a, b, d, e⟩ := hc j x e; exact ⟨.inl a, b, d, e.mono s.fz⟩)
  | p blk wd row col h => exact .p blk wd row col h
  | sl blk wd row len cap off hcap h hof => exact .sl blk wd row len cap off hcap h hof
  | m blk h => exact .m blk h
  | it blk h => exact .it blk h
  | fn f caps a hs hr => exact .fn f caps a hs (fun j x v e1 e2 => (hr j x v e1 e2).step s (under_nil hp))
  | ifc t x v hr => exact .ifc t x v (hr.step s (under_nil hp))

theorem under_app {p own : List Nat} (h : Under p own) (r : List Nat) : Under p (own ++ r) := by
  obtain ⟨q, hq⟩ := h
  exact ⟨q ++ r, by rw [hq, List.append_assoc]⟩

theorem EVR.fr {p own own2 : List Nat} (hp : p ≠ []) {x : EV} {v : Value} (h : EVR w g own x v) (hu : Under p own) : EVR w (g.fzU w p) own2 (frE x) v := by
  cases h with
  | c h => exact .c (h.fr hp hu)
  | ag h =>
    refine .ag ⟨by simpa using h.1, fun j x v e1 e2 => ?_⟩
    obtain ⟨y, y1, rfl⟩ := map_get e1
    obtain ⟨a, b⟩ := h.2 j y v y1 e2
    exact ⟨a, b.fr hp (under_app hu [j])⟩

theorem SVR.fr {r : SV} {v : Value} (hnb : ∀ cs, r ≠ .bx cs) (h : SVR w g [3] r v) : SVR w (g.fzU w [3]) [3] (frS r) v := by
  cases h with
  | e h => exact .e (h.fr (by simp) ⟨[], rfl⟩)
  | tu xs a hs hr =>
    refine .tu _ a (by simpa using hs) (fun j x v e1 e2 => ?_)
    obtain ⟨y, y1, rfl⟩ := map_get e1
    exact (hr j y v y1 e2).fr (by simp) ⟨[j], rfl⟩
  | bx cs => exact (hnb cs rfl).elim

theorem fzU_lt {p : List Nat} (h : ∀ c o, g.Fz c o → c < w.heap.size) : ∀ c o, (g.fzU w p).Fz c o → c < w.heap.size := by
  rintro c o (h1 | ⟨_, h1⟩)
  · exact h c o h1
  · exact h1

theorem PCalls.freeze {f : FuncId} {xs : List TV} {r : SV} (hnb : ∀ cs, r ≠ .bx cs) (h : PCalls P f xs r) : PCalls P f xs (frS r) := by
  refine ⟨h.1, fun w Fz be vs h1 h2 h3 => (h.2 w Fz be vs h1 h2 h3).mono ?_⟩
  rintro e w' ⟨v, g1, rfl, hr, hn, s, hfz, hom⟩
  refine ⟨v, g1.fzU w' [3], rfl, hr.fr hnb, hn, s.trans (Stp.fzU w' g1 (by simp)) (fun _ h => h) (fun o h => ?_) (fun h => h rfl), fzU_lt hfz, fun c hc => hom c ?_⟩
  · rintro rfl; exact under_nil (by simp) h
  · rw [← (fzU_om hc).1]; exact hc

/- nil slices seen as empty ones -/
def nzA : AC → AC
  | .t .ns => .t (.ts [])
  | x => x
def nzE : EV → EV
  | .c x => .c (nzA x)
  | .ag xs => .ag (xs.map nzA)
def nzS : SV → SV
  | .e x => .e (nzE x)
  | .tu xs => .tu (xs.map nzE)
  | .bx cs => .bx cs
theorem TVR.nz {Fz : Nat → Nat → Prop} {v : Value} (h : TVR w Fz .ns v) : TVR w Fz (.ts []) v := by cases h; exact .ts0
theorem ACR.nz {own : List Nat} {x : AC} {v : Value} (h : ACR w g own x v) : ACR w g own (nzA x) v := by
  unfold nzA
  split
  · cases h with | t h => exact .t h.nz
  · exact h
theorem EVR.nz {own : List Nat} {x : EV} {v : Value} (h : EVR w g own x v) : EVR w g own (nzE x) v := by
  cases h with
  | c h => exact .c h.nz
  | ag h =>
    refine .ag ⟨by simpa using h.1, fun j x v e1 e2 => ?_⟩
    obtain ⟨y, y1, rfl⟩ := map_get e1
    exact ⟨(h.2 j y v y1 e2).1, (h.2 j y v y1 e2).2.nz⟩
theorem SVR.nz {own : List Nat} {x : SV} {v : Value} (h : SVR w g own x v) : SVR w g own (nzS x) v := by
  cases h with
  | e h => exact .e h.nz
  | tu xs a hs hr =>
    refine .tu _ a (by simpa using hs) (fun j x v e1 e2 => ?_)
    obtain ⟨y, y1, rfl⟩ := map_get e1
    exact (hr j y v y1 e2).nz
  | bx cs c arr Ty h1 h2 h3 h4 h5 => exact .bx cs c arr Ty h1 h2 h3 h4 h5
/-- what is handed back, as trees, nil slices as empty ones -/
def fin (r : SV) : SV := nzS (frS r)
theorem PCallsS.fin {f : FuncId} {xs : List TV} {R : SV → Prop} {r : SV} (h : PCallsS P f xs R) (hR : ∀ r0, R r0 → r0.nr = true ∧ fin r0 = r) : PCalls P f xs r := by
  refine ⟨h.1, fun w Fz be vs h1 h2 h3 => (h.2 w Fz be vs h1 h2 h3).mono ?_⟩
  rintro e w' ⟨r0, v, g1, hr0, rfl, hr, hn, s, hfz, hom⟩
  obtain ⟨hnr, hfin⟩ := hR r0 hr0
  refine ⟨v, g1.fzU w' [3], rfl, hfin ▸ (hr.fr (by rintro cs rfl; cases hnr)).nz, hn, s.trans (Stp.fzU w' g1 (by simp)) (fun _ h => h) (fun o h => ?_) (fun h => h rfl), fzU_lt hfz, fun c hc => hom c ?_⟩
  · rintro rfl; exact under_nil (by simp) h
  · rw [← (fzU_om hc).1]; exact hc
/-- nil for an empty slice -/
def LeT0 (x y : TV) : Prop := x = y ∨ (x = .ns ∧ y = .ts [])
def LeT (x y : TV) : Prop := LeT0 x y ∨ ∃ cs ds, x = .ag cs ∧ y = .ag ds ∧ cs.length = ds.length ∧ ∀ (i : Nat) (a b : TV), cs[i]? = some a → ds[i]? = some b → LeT0 a b
theorem LeT0.tvr {x y : TV} {Fz : Nat → Nat → Prop} {v : Value} (h : LeT0 x y) (hv : TVR w Fz x v) : TVR w Fz y v := by
  rcases h with rfl | ⟨rfl, rfl⟩
  · exact hv
  · exact hv.nz
theorem LeT.tvr {x y : TV} {Fz : Nat → Nat → Prop} {v : Value} (h : LeT x y) (hv : TVR w Fz x v) : TVR w Fz y v := by
  rcases h with h | ⟨cs, ds, rfl, rfl, hl, hc⟩
  · exact h.tvr hv
  · cases hv with
    | ag _ a hs h1 hr =>
      refine .ag ds a (by rw [hs, hl]) (fun j b v e1 e2 => ?_) (fun j b v e1 e2 => ?_)
      · have hj : j < cs.length := by rw [hl]; exact get_lt e1
        exact h1 j cs[j] v (by simp [hj]) e2
      · have hj : j < cs.length := by rw [hl]; exact get_lt e1
        exact (hc j cs[j] b (by simp [hj]) e1).tvr (hr j cs[j] v (by simp [hj]) e2)
theorem PCalls.args {f : FuncId} {xs ys : List TV} {r : SV} (h : PCalls P f ys r) (hl : xs.length = ys.length) (hx : ∀ (i : Nat) (x y : TV), xs[i]? = some x → ys[i]? = some y → LeT x y) : PCalls P f xs r := by
  refine ⟨h.1, fun w Fz be vs h1 h2 h3 => h.2 w Fz be vs h1 (by rw [h2, hl]) (fun i y v e1 e2 => ?_)⟩
  have hi : i < xs.length := by rw [hl]; exact get_lt e1
  have ex : xs[i]? = some xs[i] := by simp [hi]
  exact (hx i _ y ex e1).tvr (h3 i _ v ex e2)

theorem ACalls.freeze {f : FuncId} {xs : List EV} {h h' : List HB} {r : SV} (hnb : ∀ cs, r ≠ .bx cs) (hp : ACalls P f xs h r h') : ACalls P f xs h (frS r) h' := by
  refine ⟨hp.1, fun w g vs h1 h2 h3 h4 => (hp.2 w g vs h1 h2 h3 h4).mono ?_⟩
  rintro e w' ⟨v, g1, rfl, hr, hH, hO, s⟩
  have s2 := Stp.fzU w' g1 (p := [3]) (by simp)
  refine ⟨v, g1.fzU w' [3], rfl, hr.fr hnb, ⟨fun i b e => (hH.hp i b e).step s2 (by rw [hH.n]; exact get_lt e) (fun j r h => by obtain ⟨q, hq⟩ := h; simp at hq), hH.n, fzU_lt hH.fz, fun c hc => hH.om c ?_⟩, fun c hc => ?_,
    s.trans s2 (fun _ h => h) (fun o h => ?_) (fun h => h rfl)⟩
  · rw [← (fzU_om hc).1]; exact hc
  · obtain ⟨a, b⟩ := fzU_om hc
    rw [a] at hc ⊢
    exact hO c hc
  · rintro rfl; exact under_nil (by simp) h

/-- a slice of its own that a function of trees hands back becomes a block -/
theorem PCalls.pub {f : FuncId} {xs : List TV} {wd : Nat} {rows : List (List TV)} {h : List HB} (hp : PCalls P f xs (.e (.c (.ex wd rows)))) :
    ACalls P f (xs.map EV.ofT) h (.e (.c (.sl h.length wd 0 rows.length))) (h ++ [.rows wd (rows.map fun r => r.map .t)]) := by
  refine ⟨hp.1, fun w g vs hh hom hs hv => ?_⟩
  refine (hp.2 w g.Fz g.be vs hh.fz (by simpa using hs) (fun i x v e1 e2 => ?_)).mono ?_
  · exact evr_ofT (hv i (EV.ofT x) v (by simp [e1]) e2)
  · rintro e w' ⟨v, g1, rfl, hr, hn, s, hfz, hom1⟩
    have hold : ∀ c, c < w.heap.size → g1.om c = [] := fun c hc => s.om c hc (fun h => h rfl)
    cases hr with
    | e hr =>
    cases hr with
    | c hr =>
    cases hr with
    | ex _ _ c cap arr Ty u hoc hne hbk hsz hcap hw hc hz =>
    have hge : ¬ c < w.heap.size := fun hlt => by rw [hold c hlt] at hoc; cases hoc
    let g2 : Gh := { Fz := g1.Fz, be := fun i => if i = g.n then c else g.be i, n := g.n + 1, om := fun c' => if c' < w.heap.size then (if (g.om c').take 1 = [4] then [] else g.om c') else if c' = c then [1, g.n] else [] }
    have hbe : g2.be g.n = c := by simp [g2]
    have homc : g2.om c = [1, g.n] := by simp [g2, hge]
    have s2 : Stp w g w' g2 (Under [4]) := by
      refine ⟨s.size, fun c hc _ => s.heap c hc (fun h => h rfl), s.fz, fun c o hz => ?_, fun c hc ht => ?_, fun c hc => ?_, fun i hi => ?_, Nat.le_succ _, s.out, s.os, not_under_nil⟩
      · rcases s.fznew c o hz with k | k | k
        · exact .inl k
        · exact .inr (.inl k)
        · exact (k rfl).elim
      · have : ¬ ((g.om c).take 1 = [4]) := fun h => ht (under_take (a := [4]) h)
        simp [g2, hc, this]
      · by_cases hlt : c < w.heap.size
        · by_cases h4 : (g.om c).take 1 = [4]
          · simp [g2, hlt, h4] at hc
          · simp [g2, hlt, h4] at hc; exact .inr hc
        · exact .inl (by omega)
      · have : i ≠ g.n := by omega
        simp [g2, this]
    refine ⟨_, g2, rfl, ?_, ⟨fun i b e => ?_, by simp [g2, hh.n], hfz, fun c' hc' => ?_⟩, fun c' hc' => ?_, s2.mono (fun o h => by obtain ⟨q, hq⟩ := h; rw [hq]; simp) (fun h => h rfl)⟩
    · rw [← hh.n]
      have : ACR w' g2 [3] (.sl g.n wd 0 rows.length) (.slice (some ⟨g2.be g.n, 0, none⟩) rows.length cap) := .sl g.n wd 0 rows.length cap 0 hcap (Nat.lt_succ_self _) (fun _ => by simp)
      rw [hbe] at this
      exact .e (.c this)
    · rcases app_get e with ⟨hi, e⟩ | ⟨hi, e⟩
      · exact (hh.hp i b e).step s2 (by rw [hh.n]; exact hi) (fun j r h => by obtain ⟨q, hq⟩ := h; simp at hq)
      · have hi2 : i = h.length := by have := get_lt e; simp at this; omega
        subst hi2
        simp at e
        subst e
        rw [← hh.n]
        refine ⟨arr, Ty, by rw [hbe]; exact hbk, by rw [hbe]; exact homc, by rw [hbe]; exact hz, by rw [hsz, List.length_map]; exact Nat.mul_le_mul_right wd hcap, fun r row e => ?_, fun r j row x e1 e2 => ?_⟩
        · obtain ⟨y, y1, rfl⟩ := map_get e
          rw [List.length_map]; exact hw r y y1
        · obtain ⟨y, y1, rfl⟩ := map_get e1
          obtain ⟨z, z1, rfl⟩ := map_get e2
          obtain ⟨a, b, d⟩ := hc r j y z y1 z1
          exact ⟨_, a, b, .t d⟩
    · by_cases hlt : c' < w.heap.size
      · exact Nat.lt_of_lt_of_le hlt s.size
      · by_cases hcc : c' = c
        · subst hcc; exact heap_lt hbk
        · simp [g2, hlt, hcc] at hc'
    · by_cases hlt : c' < w.heap.size
      · by_cases h4 : (g.om c').take 1 = [4]
        · simp [g2, hlt, h4] at hc'
        · simp [g2, hlt, h4] at hc' ⊢
          rcases hom c' hc' with h | h
          · exact .inl h
          · obtain ⟨q, hq⟩ := h; rw [hq] at h4; simp at h4
      · by_cases hcc : c' = c
        · left; exact ⟨[g.n], by simp [g2, hlt, hcc, hge]⟩
        · simp [g2, hlt, hcc] at hc'

/-- a slice on a block that nobody writes any more becomes a tree -/
theorem ACalls.unpub {f : FuncId} {xs : List EV} {h h' : List HB} {blk wd r len : Nat} {rs : List (List AC)} {rows : List (List TV)} (hp : ACalls P f xs h (.e (.c (.sl blk wd r len))) h') (hb : h'[blk]? = some (.rows wd rs))
    (hl : r + len ≤ rs.length) (ht : tCss ((rs.drop r).take len) = some rows) : ACalls P f xs h (.e (.c (.t (.ts rows)))) (h'.set blk .gone) := by
  refine ⟨hp.1, fun w g vs h1 h2 h3 h4 => (hp.2 w g vs h1 h2 h3 h4).mono ?_⟩
  rintro e w' ⟨v, g1, rfl, hr, hH, hO, s⟩
  cases hr with
  | e hr =>
  cases hr with
  | c hr =>
  cases hr with
  | sl _ _ _ _ cap off hcap hn ho =>
  obtain ⟨arr, Ty, b1, b2, b3, b4, b5, b6⟩ := hH.hp blk _ hb
  let g2 : Gh := { Fz := fun c o => g1.Fz c o ∨ c = g1.be blk, be := g1.be, n := g1.n, om := g1.om }
  have s2 : Stp w' g1 w' g2 (atBlk blk) := by
    refine ⟨Nat.le_refl _, fun _ _ _ => rfl, fun c o h => ⟨.inl h, rfl⟩, fun c o h => ?_, fun c _ _ => rfl, fun c h => .inr h, fun _ _ => rfl, Nat.le_refl _, rfl, rfl, fun h => by cases h⟩
    rcases h with h | rfl
    · exact .inl h
    · exact .inr (.inr b2)
  obtain ⟨l1, l2⟩ := tCss_get ht
  have hlen : rows.length = len := by rw [l1, List.length_take, List.length_drop]; omega
  have hrow : ∀ (i : Nat) (row : List TV), rows[i]? = some row → ∃ x, rs[r + i]? = some x ∧ tCs x = some row := by
    intro i row e
    obtain ⟨x, x1, x2⟩ := l2 i row e
    have hi := get_lt e
    rw [List.getElem?_take, if_pos (by omega), List.getElem?_drop] at x1
    exact ⟨x, x1, x2⟩
  have hcell : ∀ (i j : Nat) (row : List TV) (x : TV), rows[i]? = some row → row[j]? = some x → ∃ u, arr[(r + i) * wd + j]? = some u ∧ u.oneCell' = true ∧ TVR w' g1.Fz x u := by
    intro i j row x e1 e2
    obtain ⟨y, y1, y2⟩ := hrow i row e1
    obtain ⟨z, z1, z2⟩ := tCs_get y2 j x e2
    obtain ⟨u, u1, u2, u3⟩ := b6 (r + i) j y z y1 z1
    exact ⟨u, u1, u2, tC_sound z2 u3⟩
  have hoff : ∀ (i j : Nat) (row : List TV) (x : TV), rows[i]? = some row → row[j]? = some x → off + i * wd + j = (r + i) * wd + j := by
    intro i j row x e1 e2
    have : len ≠ 0 := by have := get_lt e1; omega
    rw [ho this, Nat.add_mul]
  refine ⟨_, g2, rfl, ?_, ⟨fun i b e => ?_, by simp [g2, hH.n], fun c o h => ?_, hH.om⟩, hO, s.trans s2 (fun _ h => h) (fun o h => ?_) (fun h => h rfl)⟩
  · rw [← hlen]
    refine .e (.c (.t (.ts rows wd (g1.be blk) off cap (fun i j => (arr[(r + i) * wd + j]?).getD undef) (fun i row e => ?_) (by omega) (fun i j row x e1 e2 => ⟨.inr rfl, ?_⟩) (fun i j row x e1 e2 => ?_) (fun i j row x e1 e2 => ?_))))
    · obtain ⟨y, y1, y2⟩ := hrow i row e
      rw [tCs_length y2]; exact b5 _ y y1
    · obtain ⟨u, u1, u2, u3⟩ := hcell i j row x e1 e2
      rw [hoff i j row x e1 e2, cell_of_block b1, u1]; rfl
    · obtain ⟨u, u1, u2, u3⟩ := hcell i j row x e1 e2
      rw [u1]; exact u3.mono s2.fz
    · obtain ⟨u, u1, u2, u3⟩ := hcell i j row x e1 e2
      rw [u1]; exact u2
  · rcases set_get (l := h') e with ⟨rfl, rfl⟩ | ⟨hi, e2⟩
    · trivial
    · clear e
      refine (hH.hp i b e2).step' s2 (by rw [hH.n]; exact get_lt e2) (fun q hq => ?_) (fun mp l c' hc hq => ?_)
      · simp [atBlk] at hq; exact hi hq.1
      · simp [atBlk] at hq
        subst hc
        subst hq
        obtain ⟨_, since, seen, ents, clock, c1, c2, c3, c4, c5⟩ := hH.hp i _ e2
        rw [b1] at c4; cases c4
  · rcases h with h | rfl
    · exact hH.fz c o h
    · exact heap_lt b1
  · rw [h]; simp

end
end Go.Abs
