/-
  What an operation reads and writes; operations apart may be done in either order. Program-independent.
-/
import Derived.Test.YtpfocppjojgooaaAbsO
import Derived.Orders
set_option linter.unusedSimpArgs false
set_option linter.unusedVariables false
namespace Go.Abs

/- monotone -/
theorem owp_mono {P : Program} {K K' : St → Prop} (hk : ∀ s, K s → K' s) {st : St} {op : AOp} (h : owp P K st op) : owp P K' st op := by
  cases op <;> simp only [owp] at h ⊢ <;> first
    | (obtain ⟨st', h1, h2⟩ := h; exact ⟨st', h1, hk _ h2⟩)
    | (obtain ⟨xs, r, h1, h2, h3⟩ := h; exact ⟨xs, r, h1, h2, hk _ h3⟩)
    | (obtain ⟨f, caps, xs, r, h0, h1, h2, h3⟩ := h; exact ⟨f, caps, xs, r, h0, h1, h2, hk _ h3⟩)
    | (obtain ⟨l, h1, h2⟩ := h; exact ⟨l, h1, fun s hs => hk s (h2 s hs)⟩)
    | (obtain ⟨xs, r, hh, h1, h2, h3⟩ := h; exact ⟨xs, r, hh, h1, h2, hk _ h3⟩)
    | (obtain ⟨a, f, caps, xs, r, hh, h0, hf, h1, h2, h3⟩ := h; exact ⟨a, f, caps, xs, r, hh, h0, hf, h1, h2, hk _ h3⟩)
theorem gwp_mono {P : Program} {K K' : St → Prop} (hk : ∀ s, K s → K' s) {st : St} {o : GOp} (h : gwp P o K st) : gwp P o K' st := by
  unfold gwp at h ⊢
  split
  · rename_i hg; rw [hg] at h; exact owp_mono hk h
  · rename_i j want hg
    rw [hg] at h
    obtain ⟨b, h1, h2⟩ := h
    refine ⟨b, h1, ?_⟩
    split
    · rename_i e; rw [if_pos e] at h2; exact owp_mono hk h2
    · rename_i e; rw [if_neg e] at h2; exact hk _ h2
theorem rwp_mono {P : Program} {K K' : St → Prop} (hk : ∀ s, K s → K' s) : ∀ {gs : List GOp} {st : St}, rwp P gs K st → rwp P gs K' st
  | [], st, h => hk _ h
  | o :: gs, st, h => gwp_mono (fun s hs => rwp_mono hk hs) h

def rdO : AO → List Nat
  | .s n => [n]
  | .k _ => []
def rdOs : List AO → List Nat
  | [] => []
  | x :: xs => rdO x ++ rdOs xs
def rdOo : Option AO → List Nat
  | none => []
  | some x => rdO x
def rdParts : List (Nat × Nat × AO) → List Nat
  | [] => []
  | (_, _, x) :: r => rdO x ++ rdParts r
def rdX : AX → List Nat
  | .mov x | .ld x _ _ | .fad x _ | .nleq _ _ x | .un _ x | .len _ x | .fld x _ _ _ | .cnv _ x | .cvs x | .mki _ x => rdO x
  | .pick c a b => rdO c ++ (rdO a ++ rdO b)
  | .ldb s _ _ _ => [s]
  | .iad x i _ => rdO x ++ rdO i
  | .bin _ x y | .beq _ x y | .seq _ _ x y | .mn x y | .mx x y | .six x y => rdO x ++ rdO y
  | .bld _ parts => rdParts parts
  | .ssl _ x lo hi _ => rdO x ++ (rdOo lo ++ rdOo hi)
  | .mkf _ caps => rdOs caps
def isLd : AX → Bool
  | .ld _ _ _ => true
  | _ => false

/-- reads, writes, looks at blocks, changes blocks; none: not known -/
structure FP where
  rd : List Nat
  wr : List Nat
  hr : Bool
  hw : Bool
def gvL : Option (Nat × Nat) → List Nat
  | none => []
  | some (_, n) => [n]
def fpo : AOp → Option FP
  | .set d x => some ⟨rdX x, [d], isLd x, false⟩
  | .fp d s _ => some ⟨[s], [d], false, false⟩
  | .als d s => some ⟨[s], [d], false, false⟩
  | .bxn d _ => some ⟨[], [d], false, false⟩
  | .bxv d x => some ⟨rdO x, [d], false, false⟩
  | .stb s _ _ x => some ⟨s :: rdO x, [s], false, false⟩
  | .bsl d _ xs => some ⟨rdOs xs, [d], false, false⟩
  | .app d s none x _ _ _ => some ⟨s :: rdO x, [d, s], false, false⟩
  | .apk d x _ _ _ => some ⟨rdO x, [d], false, false⟩
  | .mvs d s => some ⟨[s], [d, s], false, false⟩
  | .ext d s _ => some ⟨[s], [d, s], false, false⟩
  | .pc d _ args _ => some ⟨rdOs args, [d], false, false⟩
  | .cc d x args _ => some ⟨rdO x ++ rdOs args, [d], false, false⟩
  | .bsx d _ _ => some ⟨[], [d], false, false⟩
  | .lkp d m k _ _ _ _ => some ⟨rdO m ++ rdO k, [d], true, false⟩
  | .hpn d _ => some ⟨[], [d], true, true⟩
  | .hpv d x => some ⟨rdO x, [d], true, true⟩
  | .stp a _ x => some ⟨rdO a ++ rdO x, [], true, true⟩
  | .mks d n _ _ _ => some ⟨rdO n, [d], true, true⟩
  | .mkm d => some ⟨[], [d], true, true⟩
  | .mst m k v _ => some ⟨rdO m ++ (rdO k ++ rdO v), [], true, true⟩
  | .tc d _ args gn _ => some ⟨gvL gn ++ rdOs args, d :: gvL gn, true, true⟩
  | .ct d x args _ => some ⟨rdO x ++ rdOs args, [d], true, true⟩
  | _ => none

def ostep (P : Program) (op : AOp) (st st' : St) : Prop :=
  match op with
  | .pc d f args _ => ∃ xs r, evTs st args = some xs ∧ PCalls P f xs r ∧ st' = st.put d r
  | .cc d x args _ => ∃ f caps xs r, evO st x = some (.c (.t (.fn f caps))) ∧ evTs st args = some xs ∧ PCalls P f (xs ++ caps) r ∧ st' = st.put d r
  | .tc d f args gn _ => ∃ xs r h', evGs st gn 0 args = some xs ∧ ACalls P f xs st.h r h' ∧ st' = { sl := (setU st.sl gn).set d r, h := h' }
  | .ct d x args _ => ∃ a f caps xs r h', evO st x = some (.c a) ∧ fnOf a = some (f, caps) ∧ evOs st args = some xs ∧ ACalls P f (xs ++ caps) st.h r h' ∧ st' = { sl := st.sl.set d r, h := h' }
  | op => exop st op = some st'
def gstep (P : Program) (o : GOp) (st st' : St) : Prop :=
  match o.g with
  | none => ostep P o.op st st'
  | some (j, want) => ∃ b, guardV (st.sl[j]?) = some b ∧ if b = some want then ostep P o.op st st' else st' = st.clr o.op.dst

def AOp.many : AOp → Bool
  | .nxt _ _ => true
  | _ => false
theorem owp_iff {P : Program} {K : St → Prop} {st : St} {op : AOp} (hn : op.many = false) : owp P K st op ↔ ∃ st', ostep P op st st' ∧ K st' := by
  cases op <;> first | (simp [AOp.many] at hn; done) | simp only [owp, ostep]
  · constructor
    · rintro ⟨xs, r, a, b, c⟩; exact ⟨_, ⟨xs, r, a, b, rfl⟩, c⟩
    · rintro ⟨st', ⟨xs, r, a, b, rfl⟩, c⟩; exact ⟨xs, r, a, b, c⟩
  · constructor
    · rintro ⟨f, caps, xs, r, z, a, b, c⟩; exact ⟨_, ⟨f, caps, xs, r, z, a, b, rfl⟩, c⟩
    · rintro ⟨st', ⟨f, caps, xs, r, z, a, b, rfl⟩, c⟩; exact ⟨f, caps, xs, r, z, a, b, c⟩
  · constructor
    · rintro ⟨xs, r, hh, a, b, c⟩; exact ⟨_, ⟨xs, r, hh, a, b, rfl⟩, c⟩
    · rintro ⟨st', ⟨xs, r, hh, a, b, rfl⟩, c⟩; exact ⟨xs, r, hh, a, b, c⟩
  · constructor
    · rintro ⟨v, f, caps, xs, r, hh, z, y, a, b, c⟩; exact ⟨_, ⟨v, f, caps, xs, r, hh, z, y, a, b, rfl⟩, c⟩
    · rintro ⟨st', ⟨v, f, caps, xs, r, hh, z, y, a, b, rfl⟩, c⟩; exact ⟨v, f, caps, xs, r, hh, z, y, a, b, c⟩

theorem gwp_iff {P : Program} {K : St → Prop} {st : St} {o : GOp} (hm : o.op.many = false) : gwp P o K st ↔ ∃ st', gstep P o st st' ∧ K st' := by
  obtain ⟨g, op⟩ := o
  cases g with
  | none => exact owp_iff hm
  | some jw =>
    obtain ⟨j, want⟩ := jw
    simp only [gwp, gstep]
    constructor
    · rintro ⟨b, h1, h2⟩
      split at h2
      · rename_i e
        obtain ⟨st', q1, q2⟩ := (owp_iff hm).1 h2
        exact ⟨st', ⟨b, h1, by rw [if_pos e]; exact q1⟩, q2⟩
      · rename_i e
        exact ⟨_, ⟨b, h1, by rw [if_neg e]⟩, h2⟩
    · rintro ⟨st', ⟨b, h1, h2⟩, hk⟩
      refine ⟨b, h1, ?_⟩
      split at h2
      · rename_i e; rw [if_pos e]; exact (owp_iff hm).2 ⟨st', h2, hk⟩
      · rename_i e; rw [if_neg e, ← h2]; exact hk

section
variable {st1 st2 : St}

def Agr (st1 st2 : St) (l : List Nat) : Prop := ∀ n, n ∈ l → st1.sl[n]? = st2.sl[n]?

theorem Agr.l {a b : List Nat} (h : Agr st1 st2 (a ++ b)) : Agr st1 st2 a := fun n hn => h n (List.mem_append_left _ hn)
theorem Agr.r {a b : List Nat} (h : Agr st1 st2 (a ++ b)) : Agr st1 st2 b := fun n hn => h n (List.mem_append_right _ hn)

theorem evO_agr {x : AO} (h : Agr st1 st2 (rdO x)) : evO st1 x = evO st2 x := by
  cases x with
  | s n => simp only [evO, h n (by simp [rdO])]
  | k x => rfl
theorem evT_agr {x : AO} (h : Agr st1 st2 (rdO x)) : evT st1 x = evT st2 x := by simp only [evT, evO_agr h]
theorem evTs_agr : ∀ {xs : List AO}, Agr st1 st2 (rdOs xs) → evTs st1 xs = evTs st2 xs
  | [], _ => rfl
  | x :: xs, h => by simp only [evTs, evT_agr (x := x) h.l, evTs_agr (xs := xs) h.r]
theorem evOs_agr : ∀ {xs : List AO}, Agr st1 st2 (rdOs xs) → evOs st1 xs = evOs st2 xs
  | [], _ => rfl
  | x :: xs, h => by simp only [evOs, evO_agr (x := x) h.l, evOs_agr (xs := xs) h.r]
theorem evI_agr {x : AO} (h : Agr st1 st2 (rdO x)) : evI st1 x = evI st2 x := by simp only [evI, evO_agr h]
theorem evR_agr {x : AO} (h : Agr st1 st2 (rdO x)) : evR st1 x = evR st2 x := by
  cases x with
  | s n => simp only [evR, h n (by simp [rdO])]
  | k x => rfl
theorem evGs_agr {gn : Option (Nat × Nat)} : ∀ {k : Nat} {xs : List AO}, Agr st1 st2 (rdOs xs) → evGs st1 gn k xs = evGs st2 gn k xs
  | k, [], _ => rfl
  | k, x :: xs, h => by simp only [evGs, evO_agr (x := x) h.l, evR_agr (x := x) h.l, evGs_agr (k := k + 1) (xs := xs) h.r]
theorem evIo_agr {d : Nat} {x : Option AO} (h : Agr st1 st2 (rdOo x)) : evIo st1 d x = evIo st2 d x := by
  cases x with
  | none => rfl
  | some x => simp only [evIo]; exact evI_agr h
theorem bldE_agr : ∀ {cs : List AC} {parts : List (Nat × Nat × AO)}, Agr st1 st2 (rdParts parts) → bldE st1 cs parts = bldE st2 cs parts
  | _, [], _ => rfl
  | cs, (off, size, x) :: r, h => by
    simp only [bldE, evO_agr (x := x) h.l]
    split
    · split
      · exact bldE_agr (parts := r) h.r
      · rfl
    · rfl

theorem evX_agr {x : AX} (h : Agr st1 st2 (rdX x)) (hh : isLd x = true → st1.h = st2.h) : evX st1 x = evX st2 x := by
  cases x <;> simp only [rdX] at h
  case mov x => simp only [evX, evO_agr h]
  case pick c a b => simp only [evX, evO_agr h.l, evO_agr h.r.l, evO_agr h.r.r]
  case ldb s col n agg => simp only [evX, h s (by simp)]
  case ld x n agg => simp only [evX, evO_agr h, hh rfl]
  case fad x off => simp only [evX, evO_agr h]
  case iad x i wd => simp only [evX, evO_agr h.l, evI_agr h.r]
  case bin op x y => simp only [evX, evO_agr h.l, evO_agr h.r]
  case beq ng x y => simp only [evX, evO_agr h.l, evO_agr h.r]
  case nleq kd ng x => simp only [evX, evO_agr h]
  case seq ks ng x y => simp only [evX, evT_agr h.l, evT_agr h.r]
  case un op x => simp only [evX, evO_agr h]
  case len str x => simp only [evX, evO_agr h]
  case mn x y => simp only [evX, evO_agr h.l, evO_agr h.r]
  case mx x y => simp only [evX, evO_agr h.l, evO_agr h.r]
  case fld x off n agg => simp only [evX, evO_agr h]
  case bld zero parts => simp only [evX, bldE_agr h]
  case six x i => simp only [evX, evO_agr h.l, evI_agr h.r]
  case ssl str x lo hi wd => simp only [evX, evO_agr h.l, evIo_agr h.r.l, evIo_agr h.r.r]
  case cnv k x => simp only [evX, evO_agr h]
  case cvs x => simp only [evX, evO_agr h]
  case mkf f caps => simp only [evX, evTs_agr h, evOs_agr h]
  case mki t x => simp only [evX, evT_agr h, evO_agr h]

/-- the same change of two states -/
def Same2 (f : FP) (st1 st1' st2 st2' : St) : Prop :=
  st2'.sl.length = st2.sl.length ∧ st1'.sl.length = st1.sl.length ∧ (∀ n, n ∈ f.wr → st2'.sl[n]? = st1'.sl[n]?) ∧ (∀ n, n ∉ f.wr → st2'.sl[n]? = st2.sl[n]? ∧ st1'.sl[n]? = st1.sl[n]?) ∧
    (if f.hw = true then st2'.h = st1'.h else st2'.h = st2.h ∧ st1'.h = st1.h)

theorem same_put {rd : List Nat} {hr : Bool} (hl : st1.sl.length = st2.sl.length) (d : Nat) (v : SV) : Same2 ⟨rd, [d], hr, false⟩ st1 (st1.put d v) st2 (st2.put d v) := by
  refine ⟨by simp [St.put], by simp [St.put], fun n hn => ?_, fun n hn => ?_, by simp [St.put]⟩
  · simp at hn; subst hn
    simp [St.put, List.getElem?_set, hl]
  · simp at hn
    exact ⟨put_other _ _ _ _ hn, put_other _ _ _ _ hn⟩
theorem same_put2 {rd : List Nat} {hr : Bool} (hl : st1.sl.length = st2.sl.length) (d s : Nat) (u v : SV) : Same2 ⟨rd, [d, s], hr, false⟩ st1 ((st1.put s u).put d v) st2 ((st2.put s u).put d v) := by
  refine ⟨by simp [St.put], by simp [St.put], fun n hn => ?_, fun n hn => ?_, by simp [St.put]⟩
  · simp only [St.put, List.getElem?_set, List.length_set, hl]
    by_cases h1 : d = n
    · simp [h1]
    · have : s = n := by simp at hn; omega
      simp [h1, this]
  · simp at hn
    exact ⟨by rw [put_other _ _ _ _ hn.1, put_other _ _ _ _ hn.2], by rw [put_other _ _ _ _ hn.1, put_other _ _ _ _ hn.2]⟩

theorem same_all {rd : List Nat} {hh : List HB} (hl : st1.sl.length = st2.sl.length) (d : Nat) (v : SV) : Same2 ⟨rd, [d], true, true⟩ st1 { sl := st1.sl.set d v, h := hh } st2 { sl := st2.sl.set d v, h := hh } := by
  refine ⟨by simp, by simp, fun n hn => ?_, fun n hn => ?_, by simp⟩
  · simp at hn; subst hn
    simp [List.getElem?_set, hl]
  · simp at hn
    exact ⟨put_other st2 d n v hn, put_other st1 d n v hn⟩
theorem same_tc {rd : List Nat} {hh : List HB} (hl : st1.sl.length = st2.sl.length) (gn : Option (Nat × Nat)) (d : Nat) (v : SV) :
    Same2 ⟨rd, d :: gvL gn, true, true⟩ st1 { sl := (setU st1.sl gn).set d v, h := hh } st2 { sl := (setU st2.sl gn).set d v, h := hh } := by
  cases gn with
  | none => exact same_all hl d v
  | some p =>
    obtain ⟨i, m⟩ := p
    refine ⟨by simp [setU], by simp [setU], fun n hn => ?_, fun n hn => ?_, by simp⟩
    · simp only [setU, List.getElem?_set, List.length_set, hl]
      by_cases h1 : d = n
      · simp [h1]
      · have : m = n := by simp [gvL] at hn; omega
        simp [h1, this]
    · simp [gvL] at hn
      have h1 : d ≠ n := fun e => hn.1 e.symm
      have h2 : m ≠ n := fun e => hn.2 e.symm
      simp only [setU]
      exact ⟨by rw [List.getElem?_set_ne h1, List.getElem?_set_ne h2], by rw [List.getElem?_set_ne h1, List.getElem?_set_ne h2]⟩
theorem same_h {rd : List Nat} {hh : List HB} : Same2 ⟨rd, [], true, true⟩ st1 { st1 with h := hh } st2 { st2 with h := hh } :=
  ⟨rfl, rfl, fun n hn => by simp at hn, fun n hn => ⟨rfl, rfl⟩, by simp⟩

theorem ostep_agr {P : Program} {op : AOp} {f : FP} {st1' : St} (hf : fpo op = some f) (hl : st1.sl.length = st2.sl.length) (h : Agr st1 st2 f.rd) (hh : f.hr = true → st1.h = st2.h) (hs : ostep P op st1 st1') :
    ∃ st2', ostep P op st2 st2' ∧ Same2 f st1 st1' st2 st2' := by
  cases op <;> first | (simp [fpo] at hf; done) | skip
  case set d x =>
    simp only [fpo, Option.some.injEq] at hf; subst hf
    simp only [ostep, exop] at hs ⊢
    rw [evX_agr h hh] at hs
    cases he : evX st2 x with
    | none => rw [he] at hs; cases hs
    | some v => rw [he] at hs; cases hs; exact ⟨_, rfl, same_put hl d _⟩
  case fp d s col =>
    simp only [fpo, Option.some.injEq] at hf; subst hf
    simp only [ostep, exop] at hs ⊢
    rw [h s (by simp), hl] at hs
    split at hs
    · split at hs
      · rename_i hd; cases hs; rw [if_pos hd]; exact ⟨_, rfl, same_put hl d _⟩
      · cases hs
    · cases hs
  case als d s =>
    simp only [fpo, Option.some.injEq] at hf; subst hf
    simp only [ostep, exop] at hs ⊢
    rw [hl] at hs
    split at hs
    · rename_i hd; cases hs; rw [if_pos hd]; exact ⟨_, rfl, same_put hl d _⟩
    · cases hs
  case bxn d zero =>
    simp only [fpo, Option.some.injEq] at hf; subst hf
    simp only [ostep, exop] at hs ⊢
    cases hs; exact ⟨_, rfl, same_put hl d _⟩
  case bxv d x =>
    simp only [fpo, Option.some.injEq] at hf; subst hf
    simp only [ostep, exop] at hs ⊢
    rw [evO_agr h] at hs
    split at hs
    · rename_i l he; cases hs; exact ⟨_, rfl, same_put hl d _⟩
    · cases hs
  case stb s col n x =>
    simp only [fpo, Option.some.injEq] at hf; subst hf
    simp only [ostep, exop] at hs ⊢
    rw [h s (by simp), evO_agr (fun n hn => h n (List.mem_cons_of_mem _ hn))] at hs
    split at hs
    · rename_i cs l e1 e2
      split at hs
      · rename_i hd; cases hs; rw [if_pos hd]; exact ⟨_, rfl, same_put hl s _⟩
      · cases hs
    · cases hs
  case bsl d wd xs =>
    simp only [fpo, Option.some.injEq] at hf; subst hf
    simp only [ostep, exop] at hs ⊢
    rw [evTs_agr h] at hs
    split at hs
    · rename_i l he; cases hs; exact ⟨_, rfl, same_put hl d _⟩
    · cases hs
  case app d s col x wd bytes fz =>
    cases col with
    | some col => simp [fpo] at hf
    | none =>
      simp only [fpo, Option.some.injEq] at hf; subst hf
      simp only [ostep, exop] at hs ⊢
      rw [h s (by simp), evO_agr (fun n hn => h n (List.mem_cons_of_mem _ hn))] at hs
      split at hs
      · rename_i b v e1 e2
        cases ha : appd fz wd bytes b v with
        | none => rw [ha] at hs; cases hs
        | some r => rw [ha] at hs; cases hs; exact ⟨_, rfl, same_put2 hl d s _ _⟩
      · cases hs
  case apk d x wd bytes fz =>
    simp only [fpo, Option.some.injEq] at hf; subst hf
    simp only [ostep, exop] at hs ⊢
    rw [evO_agr h] at hs
    split at hs
    · rename_i v e1
      cases ha : appd fz wd bytes (.t .ns) v with
      | none => rw [ha] at hs; cases hs
      | some r => rw [ha] at hs; cases hs; exact ⟨_, rfl, same_put hl d _⟩
    · cases hs
  case mvs d s =>
    simp only [fpo, Option.some.injEq] at hf; subst hf
    simp only [ostep, exop] at hs ⊢
    rw [h s (by simp)] at hs
    split at hs
    · rename_i x e1; cases hs; exact ⟨_, rfl, same_put2 hl d s _ _⟩
    · cases hs
  case ext d s i =>
    simp only [fpo, Option.some.injEq] at hf; subst hf
    simp only [ostep, exop] at hs ⊢
    rw [h s (by simp)] at hs
    split at hs
    · rename_i xs e1
      split at hs
      · rename_i x e2; cases hs; exact ⟨_, rfl, same_put2 hl d s _ _⟩
      · cases hs
    · cases hs
  case pc d f args _ =>
    simp only [fpo, Option.some.injEq] at hf; subst hf
    simp only [ostep] at hs ⊢
    obtain ⟨xs, r, h1, h2, rfl⟩ := hs
    rw [evTs_agr h] at h1
    exact ⟨_, ⟨xs, r, h1, h2, rfl⟩, same_put hl d _⟩
  case cc d x args _ =>
    simp only [fpo, Option.some.injEq] at hf; subst hf
    simp only [ostep] at hs ⊢
    obtain ⟨f, caps, xs, r, h0, h1, h2, rfl⟩ := hs
    rw [evO_agr h.l] at h0
    rw [evTs_agr h.r] at h1
    exact ⟨_, ⟨f, caps, xs, r, h0, h1, h2, rfl⟩, same_put hl d _⟩
  case bsx d wd fz =>
    simp only [fpo, Option.some.injEq] at hf; subst hf
    simp only [ostep, exop] at hs ⊢
    cases hs; exact ⟨_, rfl, same_put hl d _⟩
  case lkp d m k kt zero agg ok =>
    simp only [fpo, Option.some.injEq] at hf; subst hf
    simp only [ostep, exop] at hs ⊢
    rw [evO_agr h.l, evT_agr h.r, hh rfl] at hs
    split at hs
    · split at hs
      · split at hs
        · rename_i hk; rw [if_pos hk]; cases hs; exact ⟨_, rfl, same_put hl d _⟩
        · cases hs
      · cases hs
    · split at hs
      · rename_i hk; rw [if_pos hk]; cases hs; exact ⟨_, rfl, same_put hl d _⟩
      · cases hs
    · cases hs
  case hpn d zero =>
    simp only [fpo, Option.some.injEq] at hf; subst hf
    simp only [ostep, exop] at hs ⊢
    rw [hh rfl] at hs
    cases hs; exact ⟨_, rfl, same_all hl d _⟩
  case hpv d x =>
    simp only [fpo, Option.some.injEq] at hf; subst hf
    simp only [ostep, exop] at hs ⊢
    rw [evO_agr h, hh rfl] at hs
    split at hs
    · cases hs; exact ⟨_, rfl, same_all hl d _⟩
    · cases hs
  case stp a n x =>
    simp only [fpo, Option.some.injEq] at hf; subst hf
    simp only [ostep, exop] at hs ⊢
    rw [evO_agr h.l, evO_agr h.r, hh rfl] at hs
    split at hs
    · split at hs
      · split at hs
        · split at hs
          · rename_i hk; rw [if_pos hk]; cases hs; exact ⟨_, rfl, same_h⟩
          · cases hs
        · cases hs
      · cases hs
    · cases hs
  case mks d n wd bytes zero =>
    simp only [fpo, Option.some.injEq] at hf; subst hf
    simp only [ostep, exop] at hs ⊢
    rw [evI_agr h, hh rfl] at hs
    split at hs
    · split at hs
      · rename_i hk; rw [if_pos hk]; cases hs; exact ⟨_, rfl, same_all hl d _⟩
      · cases hs
    · cases hs
  case mkm d =>
    simp only [fpo, Option.some.injEq] at hf; subst hf
    simp only [ostep, exop] at hs ⊢
    rw [hh rfl] at hs
    cases hs; exact ⟨_, rfl, same_all hl d _⟩
  case mst m k v kt =>
    simp only [fpo, Option.some.injEq] at hf; subst hf
    simp only [ostep, exop] at hs ⊢
    rw [evO_agr h.l, evT_agr h.r.l, evO_agr h.r.r, hh rfl] at hs
    split at hs
    · split at hs
      · split at hs
        · rename_i hk; rw [if_pos hk]; cases hs; exact ⟨_, rfl, same_h⟩
        · cases hs
      · cases hs
    · cases hs
  case tc d f args gn _ =>
    simp only [fpo, Option.some.injEq] at hf; subst hf
    simp only [ostep] at hs ⊢
    obtain ⟨xs, r, h', h1, h2, rfl⟩ := hs
    rw [evGs_agr h.r] at h1
    rw [hh rfl] at h2
    exact ⟨_, ⟨xs, r, h', h1, h2, rfl⟩, same_tc hl gn d _⟩
  case ct d x args _ =>
    simp only [fpo, Option.some.injEq] at hf; subst hf
    simp only [ostep] at hs ⊢
    obtain ⟨a, f, caps, xs, r, h', h0, hf, h1, h2, rfl⟩ := hs
    rw [evO_agr h.l] at h0
    rw [evOs_agr h.r] at h1
    rw [hh rfl] at h2
    exact ⟨_, ⟨a, f, caps, xs, r, h', h0, hf, h1, h2, rfl⟩, same_all hl d _⟩

/- guarded operations -/
def dstIn (op : AOp) (f : FP) : Bool := match op.dst with | some d => f.wr.contains d | none => true
def fpg (o : GOp) : Option FP :=
  match fpo o.op with
  | none => none
  | some f => match o.g with
    | none => some f
    | some (j, _) => if dstIn o.op f = true then some { rd := j :: (f.rd ++ f.wr), wr := f.wr, hr := f.hr || f.hw, hw := f.hw } else none

theorem same_skip {f : FP} (hl : st1.sl.length = st2.sl.length) (h : Agr st1 st2 f.wr) (hh : f.hw = true → st1.h = st2.h) (d : Option Nat) (hd : ∀ e, d = some e → e ∈ f.wr) : Same2 f st1 (st1.clr d) st2 (st2.clr d) := by
  cases d with
  | none =>
    refine ⟨rfl, rfl, fun n hn => (h n hn).symm, fun n hn => ⟨rfl, rfl⟩, ?_⟩
    show if f.hw = true then st2.h = st1.h else st2.h = st2.h ∧ st1.h = st1.h
    split
    · rename_i e; exact (hh e).symm
    · exact ⟨rfl, rfl⟩
  | some d =>
    have hd := hd d rfl
    refine ⟨by simp [St.put, St.clr], by simp [St.put, St.clr], fun n hn => ?_, fun n hn => ?_, ?_⟩
    · simp only [St.put, St.clr, List.getElem?_set, hl]
      split
      · rfl
      · exact (h n hn).symm
    · have : n ≠ d := fun e => hn (e ▸ hd)
      exact ⟨put_other _ _ _ _ this, put_other _ _ _ _ this⟩
    · show if f.hw = true then st2.h = st1.h else st2.h = st2.h ∧ st1.h = st1.h
      split
      · rename_i e; exact (hh e).symm
      · exact ⟨rfl, rfl⟩

theorem gstep_agr {P : Program} {o : GOp} {f : FP} {st1' : St} (hf : fpg o = some f) (hl : st1.sl.length = st2.sl.length) (h : Agr st1 st2 f.rd) (hh : f.hr = true → st1.h = st2.h) (hs : gstep P o st1 st1') :
    ∃ st2', gstep P o st2 st2' ∧ Same2 f st1 st1' st2 st2' := by
  obtain ⟨g, op⟩ := o
  simp only [fpg] at hf
  split at hf
  · cases hf
  · rename_i f0 h0
    cases g with
    | none => simp only [Option.some.injEq] at hf; subst hf; exact ostep_agr h0 hl h hh hs
    | some jw =>
      obtain ⟨j, want⟩ := jw
      simp only at hf
      rcases Bool.eq_false_or_eq_true (dstIn op f0) with hd | hd
      rotate_left
      · rw [if_neg (by rw [hd]; simp)] at hf; cases hf
      · rw [if_pos hd] at hf
        cases hf
        obtain ⟨b, h1, h2⟩ := hs
        rw [h j (by simp)] at h1
        have hrd : Agr st1 st2 f0.rd := fun n hn => h n (by simp [hn])
        have hwr : Agr st1 st2 f0.wr := fun n hn => h n (by simp [hn])
        have hh1 : f0.hr = true → st1.h = st2.h := fun e => hh (by simp [e])
        have hh2 : f0.hw = true → st1.h = st2.h := fun e => hh (by simp [e])
        split at h2
        · rename_i e
          obtain ⟨st2', q1, q2⟩ := ostep_agr h0 hl hrd hh1 h2
          exact ⟨st2', ⟨b, h1, by rw [if_pos e]; exact q1⟩, q2⟩
        · rename_i e
          subst h2
          refine ⟨_, ⟨b, h1, by rw [if_neg e]⟩, ?_⟩
          have := same_skip hl hwr hh2 op.dst (fun e he => by simp only [dstIn, he] at hd; simpa using hd)
          exact this

/-- a step changes nothing but what it writes -/
theorem gstep_out {P : Program} {o : GOp} {f : FP} {st st' : St} (hf : fpg o = some f) (hs : gstep P o st st') : st'.sl.length = st.sl.length ∧ (∀ n, n ∉ f.wr → st'.sl[n]? = st.sl[n]?) ∧ (f.hw = false → st'.h = st.h) := by
  obtain ⟨st2', q1, q2, q3, q4, q5, q6⟩ := gstep_agr (st1 := st) (st2 := st) hf rfl (fun _ _ => rfl) (fun _ => rfl) hs
  refine ⟨q3, fun n hn => (q5 n hn).2, fun e => ?_⟩
  rw [if_neg (by simp [e])] at q6
  exact q6.2

def disj (a b : List Nat) : Bool := a.all fun x => !b.contains x
def apart (x y : FP) : Bool := disj x.wr (y.rd ++ y.wr) && disj y.wr x.rd && !(x.hw && (y.hr || y.hw)) && !(y.hw && x.hr)

theorem disj_spec {a b : List Nat} (h : disj a b = true) {n : Nat} (hn : n ∈ b) : n ∉ a := by
  intro ha
  simp only [disj, List.all_eq_true] at h
  have := h n ha
  simp [hn] at this

theorem st_ext {a b : St} (h2 : ∀ n : Nat, a.sl[n]? = b.sl[n]?) (h3 : a.h = b.h) : a = b := by
  obtain ⟨al, ah⟩ := a
  obtain ⟨bl, bh⟩ := b
  simp only at h2 h3
  subst h3
  congr
  exact List.ext_getElem? h2

theorem many_of {o : GOp} {f : FP} (h : fpg o = some f) : o.op.many = false := by
  obtain ⟨g, op⟩ := o
  cases op <;> first | rfl | (simp [fpg, fpo] at h)
theorem gwp_swap {P : Program} {x y : GOp} {fx fy : FP} (hx : fpg x = some fx) (hy : fpg y = some fy) (ha : apart fx fy = true) {K : St → Prop} {st : St} (h : gwp P x (gwp P y K) st) : gwp P y (gwp P x K) st := by
  simp only [apart, Bool.and_eq_true, Bool.not_eq_true'] at ha
  obtain ⟨⟨⟨a1, a2⟩, a3⟩, a4⟩ := ha
  obtain ⟨s1, g1, h⟩ := (gwp_iff (many_of hx)).1 h
  obtain ⟨s2, g2, hk⟩ := (gwp_iff (many_of hy)).1 h
  obtain ⟨l1, o1, z1⟩ := gstep_out hx g1
  obtain ⟨l2, o2, z2⟩ := gstep_out hy g2
  -- y from the start
  have hy1 : Agr s1 st fy.rd := fun n hn => o1 n (disj_spec a1 (List.mem_append_left _ hn))
  have hh1 : fy.hr = true → s1.h = st.h := fun e => z1 (by cases hq : fx.hw with | false => rfl | true => simp [hq, e] at a3)
  obtain ⟨t1, k1, m1, m2, m3, m4, m5⟩ := gstep_agr hy l1 hy1 hh1 g2
  -- then x
  obtain ⟨l3, o3, z3⟩ := gstep_out hy k1
  have hx1 : Agr st t1 fx.rd := fun n hn => (o3 n (disj_spec a2 hn)).symm
  have hh2 : fx.hr = true → st.h = t1.h := fun e => (z3 (by cases hq : fy.hw with | false => rfl | true => simp [hq, e] at a4)).symm
  obtain ⟨t2, k2, n1, n2, n3, n4, n5⟩ := gstep_agr hx l3.symm hx1 hh2 g1
  have heq : t2 = s2 := by
    refine st_ext (fun n => ?_) ?_
    · by_cases hnx : n ∈ fx.wr
      · have hny : n ∉ fy.wr := fun hny => disj_spec a1 (List.mem_append_right _ hny) hnx
        rw [n3 n hnx, o2 n hny]
      · rw [(n4 n hnx).1]
        by_cases hny : n ∈ fy.wr
        · rw [m3 n hny]
        · rw [(m4 n hny).1, o2 n hny, o1 n hnx]
    · by_cases hwx : fx.hw = true
      · have hwy : fy.hw = false := by cases hq : fy.hw with | false => rfl | true => simp [hwx, hq] at a3
        rw [if_pos hwx] at n5
        rw [n5, z2 hwy]
      · rw [if_neg hwx] at n5
        rw [n5.1]
        by_cases hwy : fy.hw = true
        · rw [if_pos hwy] at m5; exact m5
        · rw [if_neg hwy] at m5
          rw [m5.1, z2 (by simpa using hwy), z1 (by simpa using hwx)]
  subst heq
  exact (gwp_iff (many_of hy)).2 ⟨t1, k1, (gwp_iff (many_of hx)).2 ⟨_, k2, hk⟩⟩

end
end Go.Abs
