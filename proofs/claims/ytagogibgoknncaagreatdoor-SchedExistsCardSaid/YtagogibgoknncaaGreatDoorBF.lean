/-
  Maps: a key is looked for. Program-independent.
-/
import Derived.Test.YtagogibgoknncaaGreatDoorBE
import Derived.MapKept
set_option linter.unusedSectionVars false
set_option linter.unusedVariables false
set_option linter.unusedSimpArgs false
namespace Go.B
variable [iok : OkC]
def KB.kind : KB → Nat
 | .b => 0
 | .i _ => 1
 | .s => 2
section
variable {P : Program} {w : World} {g : G} {H : Hp} {nx : Nat} {tmps : Array Value} {sl : Nat → V} {ds : List Deferred}
theorem kb_basic {t : TypeId} {k : KB} (h : kbIs P k t = true) : aa2 P t k.kind = true := by
 unfold kbIs at h
 split at h <;> first | (cases h; done) | (rename_i hu; simp [aa2, KB.kind, hu]; done) | (rename_i hu _; simp [aa2, KB.kind, hu])
theorem kb_fields : ∀ (fs : List Field) (i : Nat) (ks : List KB), aw6 P ks fs i = true → aa0 P fs i (ks.map KB.kind) = true
 | [], i, [], h => rfl
 | [], _, _ :: _, h => by simp [aw6] at h
 | _ :: _, _, [], h => by simp [aw6] at h
 | f :: fs, i, k :: ks, h => by
   simp only [aw6, Bool.and_eq_true] at h
   simp only [List.map_cons, aa0, Bool.and_eq_true]
   exact ⟨⟨h.1.1, kb_basic h.1.2⟩, kb_fields fs (i + 1) ks h.2⟩
theorem kb_sq1 {k : KB} {x y : V} (hx : k.is x = true) (hy : k.is y = true) : sq1 k.kind x y = some (ae4 x y) := by
 cases k <;> cases x <;> first | (simp [KB.is] at hx; done) | skip
 all_goals
  cases y <;> first | (simp [KB.is] at hy; done) | skip
  first
   | rfl
   | (simp only [KB.is, beq_iff_eq] at hx hy
      subst hx; subst hy
      simp [sq1, ae4, KB.kind])
theorem kb_sqs : ∀ (ks : List KB) (xs ys : List V), KB.iss ks xs = true → KB.iss ks ys = true → sqs (ks.map KB.kind) xs ys = some (am0 xs ys)
 | [], [], [], _, _ => rfl
 | [], _ :: _, _, h, _ => by simp [KB.iss] at h
 | [], [], _ :: _, _, h => by simp [KB.iss] at h
 | _ :: _, [], _, h, _ => by simp [KB.iss] at h
 | _ :: _, _ :: _, [], _, h => by simp [KB.iss] at h
 | k :: ks, x :: xs, y :: ys, h1, h2 => by
   simp only [KB.iss, Bool.and_eq_true] at h1 h2
   simp only [List.map_cons, sqs, kb_sq1 h1.1 h2.1, am0]
   cases ae4 x y
   ·rfl
   ·simpa using kb_sqs ks xs ys h1.2 h2.2
theorem st_equal {k : TypeId} {fs : Array Field} {ks : List KB} (hu : P.underlying k = some (.struct fs)) (hf : aw6 P ks fs.toList 0 = true) (hs : P.stoodInHeld k = false) {xs ys : List V} {a b : Array Value} (hx : VR g (.ag xs) (.agg a)) (hy : VR g (.ag ys) (.agg b))
  (h1 : KB.iss ks xs = true) (h2 : KB.iss ks ys = true) : (Op.equal k (.agg a) (.agg b)).run P w = .ok (am0 xs ys) w := by
 have hfo : P.fieldsOf k = fs := by simp [Program.fieldsOf, hu]
 cases hx with
 | ag as xa hsa h1a hra =>
   cases hy with
   | ag bs xb hsb h1b hrb =>
     have := Go.run_equalIn_struct (P := P) w 9999 k a b (by rw [hfo]; exact hu) hs
     rw [hfo] at this
     exact this.trans (ay7 (w := w) (g := g) 9998 a b xs ys hra hrb hsa hsb fs.toList 0 (ks.map KB.kind) _ (kb_fields _ _ _ hf) (by simpa using kb_sqs ks xs ys h1 h2))
theorem kb_check {t : TypeId} {k : KB} (h : kbIs P k t = true) (b : Bool) (n : Nat) (v : Value) : (Instr.checkKey b (n + 1) t v).run P w = .ok () w := by
 rw [Instr.checkKey]
 unfold kbIs at h
 split at h <;> first | (cases h; done) | skip
 all_goals
  rename_i hu
  first
   | (simp only [Sem.run_bind, f0 hu, Result.andThen_ok]; rfl)
   | (rename_i hu2; simp only [Sem.run_bind, f0 hu2, Result.andThen_ok]; rfl)
theorem st_check {k : TypeId} {fs : Array Field} {ks : List KB} (hu : P.underlying k = some (.struct fs)) (hf : aw6 P ks fs.toList 0 = true) {xs : List V} {a : Array Value} (hx : VR g (.ag xs) (.agg a)) (h1 : KB.iss ks xs = true) (b : Bool) :
  (Instr.checkKey b 10000 k (.agg a)).run P w = .ok () w := by
 cases hx with
 | ag as xa hsa h1a hra =>
 rw [show (10000 : Nat) = 9999 + 1 from rfl, Instr.checkKey]
 simp only [Sem.run_bind, f0 hu, Result.andThen_ok]
 rw [← Array.forIn_toList]
 have key : ∀ (L : List Field) (i : Nat) (ks : List KB), aw6 P ks L i = true → KB.iss ks (xs.drop i) = true → ∀ f ∈ L, ∃ v k, (∀ w, (part f.type a f.offset).run P w = .ok v w) ∧ f.name ≠ "_" ∧ kbIs P k f.type = true := by
  intro L
  induction L with
  | nil => intro i ks _ _ f hf; cases hf
  | cons f L ih =>
    intro i ks h2 h3 f' hf'
    cases ks with
    | nil => simp [aw6] at h2
    | cons kk ks =>
      simp only [aw6, Bool.and_eq_true, beq_iff_eq, bne_iff_ne] at h2
      obtain ⟨⟨⟨f1, f2⟩, f3⟩, f4⟩ := h2
      cases hd : xs.drop i with
      | nil => rw [hd] at h3; simp [KB.iss] at h3
      | cons x r =>
        rw [hd] at h3
        simp only [KB.iss, Bool.and_eq_true] at h3
        have hd1 : xs.drop (i + 1) = r := by have := congrArg List.tail hd; simpa using this
        rcases List.mem_cons.1 hf' with rfl | hf'
        ·have ex : xs[i]? = some x := by have := congrArg (·[0]?) hd; simpa using this
         have hi : i < a.size := by rw [hsa]; exact ai4 ex
         have va : a[i]? = some a[i] := by simp [hi]
         exact ⟨a[i], kk, fun w => by simp [part, at6 (bd6 (kb_basic f3)), f1, va], f2, f3⟩
        ·exact ih (i + 1) ks f4 (by rw [hd1]; exact h3.2) f' hf'
 have each := key fs.toList 0 ks hf (by simpa using h1)
 clear key hf hu
 generalize fs.toList = L at each
 induction L with
 | nil => simp
 | cons f L ih =>
   obtain ⟨v, kk, p1, p2, p3⟩ := each f (by simp)
   simp only [List.forIn_cons, Sem.run_bind, p2, ne_eq, not_false_eq_true, if_true, Result.andThen_ok, p1, kb_check p3, Sem.run_pure]
   exact ih (fun y hy => each y (by simp [hy]))
theorem str_of {a b : ByteArray} (h1 : a.data.toList.length = b.data.toList.length) (h2 : enc a.data.toList = enc b.data.toList) : a = b := by
 have := enc_inj h1 h2
 obtain ⟨⟨a⟩⟩ := a
 obtain ⟨⟨b⟩⟩ := b
 simp at this; rw [this]
theorem kb_same {x y : V} {v u : Value} (hv : VR g x v) (hu : VR g y u) (h : ae4 x y = true) (n : Nat) : Instr.sameBits n u v = true := by
 cases x <;> cases y <;> first | (simp [ae4] at h; done) | skip
 ·cases hv; cases hu; simp [ae4] at h; subst h; simp [Instr.sameBits]
 ·cases hv; cases hu; simp [ae4] at h; obtain ⟨rfl, rfl⟩ := h; simp [Instr.sameBits]
 ·cases hv with
  | s a =>
  cases hu with
  | s b =>
    simp only [ae4, Bool.and_eq_true, beq_iff_eq] at h
    have := str_of h.1 h.2
    subst this
    simp [Instr.sameBits, MapKept.bytes_beq]
theorem kbs_get : ∀ (xs ys : List V), am0 xs ys = true → xs.length = ys.length ∧ ∀ (j : Nat) (x y : V), xs[j]? = some x → ys[j]? = some y → ae4 x y = true
 | [], [], _ => ⟨rfl, fun j x y e => by simp at e⟩
 | [], _ :: _, h => by simp [am0] at h
 | _ :: _, [], h => by simp [am0] at h
 | x :: xs, y :: ys, h => by
   simp only [am0, Bool.and_eq_true] at h
   obtain ⟨hq, h⟩ := h
   ·obtain ⟨h1, h2⟩ := kbs_get xs ys h
    refine ⟨by simp [h1], fun j a b e1 e2 => ?_⟩
    cases j with
    | zero => simp at e1 e2; subst e1 e2; exact hq
    | succ j => exact h2 j a b (by simpa using e1) (by simpa using e2)
theorem st_stays {xs ys : List V} {a b : Array Value} (hx : VR g (.ag xs) (.agg a)) (hy : VR g (.ag ys) (.agg b)) (h : am0 xs ys = true) : (Instr.keyThatStays (.agg b) (.agg a)).run P w = .ok (.agg a) w := by
 obtain ⟨h1, h2⟩ := kbs_get xs ys h
 cases hx with
 | ag as xa hsa h1a hra =>
   cases hy with
   | ag bs xb hsb h1b hrb =>
     have hs : Instr.sameBits 10000 (.agg b) (.agg a) = true := by
      show Instr.sameBits (9999 + 1) (.agg b) (.agg a) = true
      simp only [Instr.sameBits, Bool.and_eq_true, beq_iff_eq, List.all_eq_true]
      refine ⟨by rw [hsa, hsb, h1], fun p hp => ?_⟩
      obtain ⟨i, hi, e⟩ := List.getElem_of_mem hp
      rw [List.getElem_zip] at e
      simp only [List.length_zip, Array.length_toList] at hi
      rw [← e]
      have ia : i < a.size := by omega
      have ib : i < b.size := by omega
      obtain ⟨x, hx⟩ : ∃ x, xs[i]? = some x := ⟨xs[i]'(by omega), by simp [show i < xs.length by omega]⟩
      obtain ⟨y, hy⟩ : ∃ y, ys[i]? = some y := ⟨ys[i]'(by omega), by simp [show i < ys.length by omega]⟩
      exact kb_same (hra i x a[i] hx (by simp [ia])) (hrb i y b[i] hy (by simp [ib])) (h2 i x y hx hy) 9999
     simp [Instr.keyThatStays, hs]
theorem st_find {k : TypeId} {fs : Array Field} {ks : List KB} (hu : P.underlying k = some (.struct fs)) (hf : aw6 P ks fs.toList 0 = true) (hs : P.stoodInHeld k = false) {xs : List V} {a : Array Value} (hx : VR g (.ag xs) (.agg a)) (h1 : KB.iss ks xs = true) :
  ∀ (l : List MapEntry) (es : List (V × V × Nat)) (i : Nat) (r : Option Nat), l.length = es.length → (∀ (j : Nat) (x : V × V × Nat) (e : MapEntry), es[j]? = some x → l[j]? = some e → VR g x.1 e.key) → ap6 (.st ks) (.ag xs) es i = some r →
   match r with
   | none => (Instr.findAsking k (.agg a) l i).run P w = .ok none w
   | some n => i ≤ n ∧ ∃ e, l[n - i]? = some e ∧ (Instr.findAsking k (.agg a) l i).run P w = .ok (some (n, e.val)) w ∧ (Instr.keyThatStays e.key (.agg a)).run P w = .ok (.agg a) w
 | [], [], i, r, _, _, hm => by simp only [ap6, Option.some.injEq] at hm; subst hm; simp [Instr.findAsking]
 | [], _ :: _, _, _, h, _, _ => by simp at h
 | _ :: _, [], _, _, h, _, _ => by simp at h
 | e :: l, (c, u, b0) :: es, i, r, hl, h, hm => by
   have q1 := h 0 (c, u, b0) e rfl rfl
   simp only [ap6] at hm
   split at hm
   ·rename_i q2
    cases c <;> first | (simp [KT.is] at q2; done) | skip
    rename_i ys
    have q2 : KB.iss ks ys = true := q2
    obtain ⟨b, hb⟩ : ∃ b, e.key = .agg b := by
     simp only at q1
     generalize e.key = ek at q1
     cases q1; exact ⟨_, rfl⟩
    simp only [hb] at q1
    have he := st_equal (w := w) (g := g) hu hf hs hx q1 h1 q2
    simp only [ap8] at hm
    simp only [Instr.findAsking, Sem.run_bind, hb, he, Result.andThen_ok]
    rcases Bool.eq_false_or_eq_true (am0 xs ys) with hq | hq
    ·simp only [hq, if_true, Option.some.injEq] at hm ⊢
     subst hm
     exact ⟨Nat.le_refl _, e, by simp, by simp, by rw [hb]; exact st_stays hx q1 hq⟩
    ·simp only [hq, Bool.false_eq_true, if_false] at hm ⊢
     have ih := st_find hu hf hs hx h1 l es (i + 1) r (by simpa using hl) (fun j x e e1 e2 => h (j + 1) x e (by simpa using e1) (by simpa using e2)) hm
     split at ih
     ·exact ih
     ·rename_i n
      obtain ⟨h3, e', h4, h5, h6⟩ := ih
      refine ⟨by omega, e', ?_, h5, h6⟩
      rw [show n - i = (n - (i + 1)) + 1 by omega]
      simpa using h4
   ·cases hm
theorem ax4 {k : TypeId} {d : TypeDesc} {q : KB} {x : V} {v : Value} (hd : P.underlying k = some d) (hk : kbIs P q k = true) (hx : q.is x = true) (hv : VR g x v) : MapKept.IsKey d v := by
 cases q <;> cases x <;> first | (simp [KB.is] at hx; done) | skip
 all_goals
  cases hv
  cases d <;> simp_all [kbIs, MapKept.IsKey, KB.is]
theorem now_of {k : TypeId} {d : TypeDesc} {q : KB} {x y : V} {v u : Value} (hd : P.underlying k = some d) (hk : kbIs P q k = true) (hx : q.is x = true) (hy : q.is y = true) (hv : VR g x v) (hu : VR g y u) :
  Instr.sameNow d v u = some (ap8 x y) := by
 cases q with
 | b =>
   cases x <;> first | (simp [KB.is] at hx; done) | skip
   cases y <;> first | (simp [KB.is] at hy; done) | skip
   cases hv; cases hu
   cases d <;> simp_all [kbIs, Instr.sameNow, ap8, ae4]
 | i kk =>
   cases x <;> first | (simp [KB.is] at hx; done) | skip
   cases y <;> first | (simp [KB.is] at hy; done) | skip
   simp only [KB.is, beq_iff_eq] at hx hy
   subst hx; subst hy
   cases hv; cases hu
   cases d <;> simp_all [kbIs, Instr.sameNow, ap8, ae4]
 | s =>
   cases x <;> first | (simp [KB.is] at hx; done) | skip
   cases y <;> first | (simp [KB.is] at hy; done) | skip
   cases hv with
   | s a =>
   cases hu with
   | s b =>
   have he : (a == b) = (a.data.toList.length == b.data.toList.length && enc a.data.toList == enc b.data.toList) := by
    rw [str_eq, Bool.eq_iff_iff, MapKept.bytes_beq, am5, am5]
    obtain ⟨⟨a⟩⟩ := a
    obtain ⟨⟨b⟩⟩ := b
    simp
   cases d <;> simp_all [kbIs, Instr.sameNow, ap8, ae4]
theorem av8 {k : TypeId} {d : TypeDesc} {q : KB} {key : V} {kv : Value} (hd : P.underlying k = some d) (hk : kbIs P q k = true) (hx : q.is key = true) (hv : VR g key kv) :
  ∀ (l : List MapEntry) (es : List (V × V × Nat)) (i : Nat) (r : Option Nat), l.length = es.length → (∀ (j : Nat) (x : V × V × Nat) (e : MapEntry), es[j]? = some x → l[j]? = some e → VR g x.1 e.key) → ap6 (.k q) key es i = some r →
   match r with
   | none => Instr.findNow d kv l i = some none
   | some n => i ≤ n ∧ ∃ e, l[n - i]? = some e ∧ Instr.findNow d kv l i = some (some (n, e.val)) ∧ e.key = kv
 | [], [], i, r, _, _, hm => by simp only [ap6, Option.some.injEq] at hm; subst hm; rfl
 | [], _ :: _, _, _, h, _, _ => by simp at h
 | _ :: _, [], _, _, h, _, _ => by simp at h
 | e :: l, (c, u, b0) :: es, i, r, hl, h, hm => by
   have h1 := h 0 (c, u, b0) e rfl rfl
   simp only [ap6] at hm
   split at hm
   ·rename_i h2
    have h2 : q.is c = true := h2
    have hn := now_of hd hk hx h2 hv h1
    have hkv := ax4 hd hk hx hv
    have hke := ax4 hd hk h2 h1
    simp only [Instr.findNow, hn]
    cases hq : ap8 key c with
    | true =>
      simp only [hq, if_true, Option.some.injEq] at hm ⊢
      subst hm
      refine ⟨Nat.le_refl _, e, by simp, rfl, ?_⟩
      obtain ⟨r, r1, r2⟩ := MapKept.sameNow_of_keys hkv hke
      rw [hn] at r1
      cases r1
      exact (r2.1 hq).symm
    | false =>
      simp only [hq, Bool.false_eq_true, if_false] at hm ⊢
      have ih := av8 hd hk hx hv l es (i + 1) r (by simpa using hl) (fun j x e e1 e2 => h (j + 1) x e (by simpa using e1) (by simpa using e2)) hm
      split at ih
      ·exact ih
      ·rename_i n
       obtain ⟨h3, e', h4, h5, h6⟩ := ih
       refine ⟨by omega, e', ?_, h5, h6⟩
       rw [show n - i = (n - (i + 1)) + 1 by omega]
       simpa using h4
   ·cases hm
theorem key_run {k : TypeId} {kt : KT} {key : V} {kv : Value} (ht : ap7 P kt k = true) (hk : kt.is key = true) (hv : VR g key kv) :
  (∀ b, (Instr.checkKey b 10000 k kv).run P w = .ok () w) ∧ (Instr.findKey k kv []).run P w = .ok none w := by
 cases kt with
 | k q =>
   have ht : kbIs P q k = true := ht
   have hk : q.is key = true := hk
   cases hd : P.underlying k with
   | none => simp [kbIs, hd] at ht
   | some d => exact ⟨fun b => MapKept.run_checkKey hd (ax4 hd ht hk hv) b 9999, MapKept.run_findKey hd rfl⟩
 | st ks =>
   cases key <;> first | (simp [KT.is] at hk; done) | skip
   simp only [ap7] at ht
   split at ht
   ·rename_i fs hu
    simp only [Bool.and_eq_true, Bool.not_eq_true'] at ht
    obtain ⟨a, rfl⟩ : ∃ a, kv = .agg a := by cases hv; exact ⟨_, rfl⟩
    exact ⟨fun b => st_check hu ht.1 hv hk b, MapKept.run_findKey hu rfl⟩
   ·cases ht
theorem an2 {k : TypeId} {kt : KT} {key : V} {kv : Value} (ht : ap7 P kt k = true) (hk : kt.is key = true) (hv : VR g key kv) {ents : Array MapEntry} {es : List (V × V × Nat)} (hs : ents.size = es.length)
  (he : ∀ (j : Nat) (x : V × V × Nat) (e : MapEntry), es[j]? = some x → ents[j]? = some e → VR g x.1 e.key) {r : Option Nat} (hm : ap6 kt key es 0 = some r) :
  match r with
   | none => (Instr.findKey k kv ents.toList).run P w = .ok none w
   | some n => ∃ e, ents[n]? = some e ∧ (Instr.findKey k kv ents.toList).run P w = .ok (some (n, e.val)) w ∧ (Instr.keyThatStays e.key kv).run P w = .ok kv w := by
 cases kt with
 | k q =>
   have ht : kbIs P q k = true := ht
   have hk : q.is key = true := hk
   cases hd : P.underlying k with
   | none => simp [kbIs, hd] at ht
   | some d =>
     have hf := av8 hd ht hk hv ents.toList es 0 r (by simpa using hs) (fun j x e e1 e2 => he j x e e1 (by simpa using e2)) hm
     split at hf
     ·exact MapKept.run_findKey hd hf
     ·rename_i n
      obtain ⟨_, e, e1, e2, e3⟩ := hf
      exact ⟨e, by simpa using e1, MapKept.run_findKey hd e2, by rw [e3]; exact MapKept.run_keyThatStays (ax4 hd ht hk hv)⟩
 | st ks =>
   cases key <;> first | (simp [KT.is] at hk; done) | skip
   rename_i xs
   simp only [ap7] at ht
   split at ht
   ·rename_i fs hu
    simp only [Bool.and_eq_true, Bool.not_eq_true'] at ht
    obtain ⟨a, rfl⟩ : ∃ a, kv = .agg a := by cases hv; exact ⟨_, rfl⟩
    have hf := st_find (w := w) hu ht.1 ht.2 hv hk ents.toList es 0 r (by simpa using hs) (fun j x e e1 e2 => he j x e e1 (by simpa using e2)) hm
    have hfk : ∀ r, (Instr.findAsking k (.agg a) ents.toList 0).run P w = .ok r w → (Instr.findKey k (.agg a) ents.toList).run P w = .ok r w := by
     intro r hr
     simp only [Instr.findKey, Sem.run_bind, f0 hu, Result.andThen_ok]
     cases hl : ents.toList with
     | nil => rw [hl] at hr; simpa [Instr.findNow, Instr.findAsking] using hr
     | cons e l => rw [hl] at hr; simpa [Instr.findNow, Instr.sameNow] using hr
    split at hf
    ·exact hfk _ hf
    ·rename_i n
     obtain ⟨_, e, e1, e2, e3⟩ := hf
     exact ⟨e, by simpa using e1, hfk _ e2, e3⟩
   ·cases ht
theorem ad4 {r : Nat} {ents : Array MapEntry} {clock : Nat} (h : w.heap[r]? = some (.map ents clock)) : (getObj r).run P w = .ok (.map ents clock) w := by
 simp [getObj, Sem.run, h]
theorem zero_val {T : TypeId} {zero : List V} {agg : Bool} {z : V} (hz : ad9 P T zero = true) (hs : zeroSh P T agg = true) (hp : pack agg zero = some z) : ∃ u, (∀ w : World, (zeroValue T).run P w = .ok u w) ∧ VR g z u := by
 obtain ⟨u, u1, u2⟩ := aa3 (g := g) hz
 have hu : (P.info? T).bind (·.zero) = some u := by
  unfold ad9 at hz
  cases hq : (P.info? T).bind (·.zero) with
  | none => rw [hq] at hz; cases hz
  | some u' =>
    cases hi : P.info? T with
    | none => rw [hi] at hq; cases hq
    | some ti =>
      rw [hi] at hq
      have hq' : ti.zero = some u' := by simpa using hq
      have := u1 default
      simp [zeroValue, typeInfo, hi, hq'] at this
      rw [this]
 refine ⟨u, u1, ?_⟩
 unfold zeroSh at hs
 rw [hu] at hs
 cases agg with
 | true =>
   simp only [pack, Option.some.injEq] at hp
   subst hp
   cases u <;> first | (simp at hs; done) | skip
   exact u2.ag
 | false =>
   simp only [pack] at hp
   split at hp
   ·cases hp
    have hone : u.cells = #[u] := by cases u <;> first | (simp at hs; done) | rfl
    rw [hone] at u2
    exact (u2.2 0 _ u rfl rfl).2
   ·cases hp
theorem val_lkp (hh : HR w g H nx) (h : SlR g tmps sl) {o : Oper} {T : TypeId} {a b : Operand} {m k : AO} {kt : KT} {zero : List V} {agg ok : Bool} {e : V} (ho : o.op = .lookup T a b ok) (ha : opd a m = true) (hb : opd b k = true)
  (ht : mapIs P T kt zero agg = true) (hx : evX sl H (.lkp m k kt zero agg ok) = some e) : Val P w g o { tmps, defers := ds } e := by
 unfold mapIs at ht
 split at ht
 ·rename_i kT el hT
  simp only [Bool.and_eq_true] at ht
  obtain ⟨⟨t1, t2⟩, t3⟩ := ht
  simp only [evX] at hx
  split at hx
  ·rename_i z hz
   obtain ⟨zu, z1, z2⟩ := zero_val (g := g) t2 t3 hz
   have fin : ∀ (e : V) (u : Value) (b : Bool), VR g e u → VR g (if ok then .tu [e, .b b] else e) (if ok then .tuple #[u, .bool b] else u) := by
    intro e u b hu
    cases ok with
    | false => exact hu
    | true =>
      refine .tu _ _ rfl (fun j y v e1 e2 => ?_)
      match j with
      | 0 => simp at e1 e2; subst e1 e2; exact hu
      | 1 => simp at e1 e2; subst e1 e2; exact .b b
      | j + 2 => simp at e1
   unfold lkpV at hx
   split at hx
   ·rename_i hk
    have hm := e9 (ds := ds) h ha
    have hkv := e9 (ds := ds) h hb
    generalize hva : Act.eval { tmps, defers := ds } a = va at hm
    generalize hvb : Act.eval { tmps, defers := ds } b = vb at hkv
    obtain ⟨f2, fk⟩ := key_run (w := w) t1 hk hkv
    split at hx
    ·rename_i e1
     rw [e1] at hm
     cases hm
     cases hx
     refine ⟨if ok then .tuple #[zu, .bool false] else zu, ?_, fin z zu false z2⟩
     simp [execOp, ho, hva, hvb, Instr.lookup, f0 hT, f2, fk, z1, Result.andThen]
    ·rename_i ad e1
     rw [e1] at hm
     split at hx
     ·rename_i es clock e4
      have hob := hh.ob ad
      rw [e4] at hob
      obtain ⟨ents, b1, b2, b3⟩ := hob
      cases hm with
      | m _ hd =>
      split at hx
      ·rename_i n hmi
       obtain ⟨e', g1, g2, g3⟩ := an2 (w := w) t1 hk hkv b2 (fun j x e q1 q2 => (b3 j x e q1 q2).1) hmi
       have hn : n < es.length := by rw [← b2]; exact (Array.getElem?_eq_some_iff.1 g1).1
       split at hx
       ·rename_i k0 v0 b0 hes
        cases hx
        refine ⟨if ok then .tuple #[e'.val, .bool true] else e'.val, ?_, fin _ e'.val true (b3 n _ e' hes g1).2.1⟩
        simp [execOp, ho, hva, hvb, Instr.lookup, f0 hT, ad4 b1, f2, g2, Result.andThen]
       ·cases hx
      ·rename_i hmi
       have g2 := an2 (w := w) t1 hk hkv b2 (fun j x e q1 q2 => (b3 j x e q1 q2).1) hmi
       simp only at g2
       cases hx
       refine ⟨if ok then .tuple #[zu, .bool false] else zu, ?_, fin z zu false z2⟩
       simp [execOp, ho, hva, hvb, Instr.lookup, f0 hT, ad4 b1, f2, g2, z1, Result.andThen]
      ·cases hx
     ·cases hx
    ·cases hx
   ·cases hx
  ·cases hx
 ·cases ht
theorem opds_two {args : Array Operand} {x y : AO} (h : ba5 args.toList [x, y] = true) : ∃ a b, args = #[a, b] ∧ opd a x = true ∧ opd b y = true := by
 have hl := aj3 h
 match hm : args.toList, hl with
 | [a, b], _ =>
   rw [hm] at h
   simp only [ba5, Bool.and_true, Bool.and_eq_true] at h
   exact ⟨a, b, by rw [← Array.toArray_toList (xs := args), hm], h.1, h.2⟩
theorem bi0 {a b : BinOp} (h : (a == b) = true) : a = b := by cases a <;> cases b <;> first | rfl | (cases h)
theorem beq_uop {a b : UnOp} (h : (a == b) = true) : a = b := by cases a <;> cases b <;> first | rfl | (cases h)
theorem chkX_sound (hh : HR w g H nx) (h : SlR g tmps sl) {o : Oper} {x : AX} {e : V} (hc : chkX P o.op x = true) (hx : evX sl H x = some e) : Val P w g o { tmps, defers := ds } e := by
 generalize ho : o.op = op at hc
 unfold chkX at hc
 split at hc
 ·simp only [evX, Option.some.injEq] at hx; subst hx; exact val_mov h (.inl ho) hc
 ·simp only [evX, Option.some.injEq] at hx; subst hx; exact val_mov h (.inr ho) hc
 ·simp only [Bool.and_eq_true] at hc; exact val_pick h ho hc.1.1 hc.1.2 hc.2 hx
 ·simp only [Bool.and_eq_true] at hc; exact val_ld hh h ho hc.1 hc.2 hx
 ·simp only [Bool.and_eq_true] at hc; exact val_fad h ho hc.1 hc.2 hx
 ·simp only [Bool.and_eq_true] at hc; exact val_arr h ho hc.1 hc.2 hx
 ·simp only [Bool.and_eq_true] at hc; exact val_iad h ho hc.1.1 hc.1.2 hc.2 hx
 ·exact val_nck h ho hc hx
 ·simp only [Bool.and_eq_true] at hc
  obtain ⟨⟨c1, c2⟩, c3⟩ := hc
  split at c3
  ·rename_i l el hu
   simp only [Bool.and_eq_true, beq_iff_eq] at c3
   obtain ⟨rfl, c3⟩ := c3
   exact val_aix h ho c1 c2 hu c3 hx
  ·cases c3
 ·simp only [Bool.and_eq_true] at hc; exact val_six h ho hc.1.1 hc.1.2 (isStr_eq hc.2) hx
 ·simp only [Bool.and_eq_true, beq_iff_eq] at hc
  obtain ⟨⟨rfl, c2⟩, c3⟩ := hc
  exact val_tas h ho c2 c3 hx
 ·simp only [Bool.and_eq_true] at hc; exact val_bin h ho (bi0 hc.1.1) hc.1.2 hc.2 hx
 ·simp only [Bool.and_eq_true] at hc; exact val_beq h ho (bi0 hc.1.1.1) hc.1.1.2 hc.1.2 hc.2 hx
 ·simp only [Bool.and_eq_true, Bool.or_eq_true] at hc; exact val_nleq h ho (bi0 hc.1.1) hc.1.2 hc.2 hx
 ·simp only [Bool.and_eq_true] at hc; exact val_seq h ho (bi0 hc.1.1.1) hc.1.1.2 hc.1.2 hc.2 hx
 ·simp only [Bool.and_eq_true] at hc; exact val_not h ho (beq_uop hc.1) hc.2 hx
 ·simp only [Bool.and_eq_true] at hc; exact val_neg h ho (beq_uop hc.1) hc.2 hx
 ·simp only [Bool.and_eq_true] at hc; exact val_shl h ho (bi0 hc.1.1) hc.1.2 hc.2 hx
 ·simp only [Bool.and_eq_true] at hc; exact val_shr h ho (bi0 hc.1.1) hc.1.2 hc.2 hx
 ·rename_i args ts str x
  split at hc
  ·rename_i a T e1 e2
   simp only [Bool.and_eq_true] at hc
   have q1 : args = #[a] := by rw [← Array.toArray_toList (xs := args), e1]
   have q2 : ts = #[T] := by rw [← Array.toArray_toList (xs := ts), e2]
   subst q1 q2
   exact val_len h ho hc.1 hc.2 hx
  ·cases hc
 ·rename_i args ts x
  split at hc
  ·rename_i a T e1 e2
   simp only [Bool.and_eq_true] at hc
   have q1 : args = #[a] := by rw [← Array.toArray_toList (xs := args), e1]
   have q2 : ts = #[T] := by rw [← Array.toArray_toList (xs := ts), e2]
   subst q1 q2
   exact val_cap h ho hc.1 hc.2 hx
  ·cases hc
 ·obtain ⟨a, b, rfl, h1, h2⟩ := opds_two hc
  exact val_mm (isMax := false) h ho h1 h2 hx
 ·obtain ⟨a, b, rfl, h1, h2⟩ := opds_two hc
  exact val_mm (isMax := true) h ho h1 h2 hx
 ·simp only [Bool.and_eq_true] at hc; exact val_fld h ho hc.1 hc.2 hx
 ·split at hc
  ·rename_i fs hu
   simp only [Bool.and_eq_true] at hc
   exact val_bld h ho hu hc.1.1 hc.1.2 hc.2 hx
  ·rename_i el hu
   split at hc
   ·rename_i n hs
    simp only [Bool.and_eq_true] at hc
    exact val_blda h ho hu hs hc.1 hc.2 hx
   ·cases hc
  ·cases hc
 ·simp only [Bool.and_eq_true] at hc
  obtain ⟨⟨⟨⟨⟨c1, c2⟩, c3⟩, c4⟩, c5⟩, c6⟩ := hc
  exact val_ssl h ho c1 c2 c3 c4 c5 c6 hx
 ·simp only [Bool.and_eq_true] at hc
  obtain ⟨⟨⟨c1, c2⟩, c3⟩, c4⟩ := hc
  exact val_str h ho c1 c2 c3 (isStr_eq c4) hx
 ·simp only [Bool.and_eq_true] at hc
  obtain ⟨⟨⟨c1, c2⟩, c3⟩, c4⟩ := hc
  exact val_ssx hh h ho c1 c2 c3 c4 hx
 ·simp only [Bool.and_eq_true] at hc
  obtain ⟨⟨c1, c2⟩, c3⟩ := hc
  split at c3
  ·rename_i k' hu
   simp only [beq_iff_eq] at c3
   subst c3
   exact val_cnv h ho c2 hu c1 hx
  ·cases c3
 ·simp only [Bool.and_eq_true] at hc; exact val_cvs h ho hc.1.2 (isStr_eq hc.2) hc.1.1 hx
 ·simp only [Bool.and_eq_true, beq_iff_eq] at hc
  obtain ⟨⟨rfl, c2⟩, c3⟩ := hc
  simp only [evX, Option.some.injEq] at hx; subst hx
  exact val_mkf h ho c2 c3
 ·simp only [Bool.and_eq_true, beq_iff_eq] at hc
  obtain ⟨⟨rfl, c2⟩, c3⟩ := hc
  simp only [evX, Option.some.injEq] at hx; subst hx
  exact val_mki h ho c2 c3
 ·simp only [Bool.and_eq_true, beq_iff_eq] at hc
  obtain ⟨rfl, c2⟩ := hc
  exact val_ext h ho c2 hx
 ·simp only [Bool.and_eq_true, beq_iff_eq] at hc
  obtain ⟨⟨⟨rfl, c2⟩, c3⟩, c4⟩ := hc
  exact val_lkp hh h ho c2 c3 c4 hx
 ·cases hc
end
end Go.B
