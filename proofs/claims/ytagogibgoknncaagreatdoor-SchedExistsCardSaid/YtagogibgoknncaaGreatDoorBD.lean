/-
  More expressions have, in the model's run, the values that the abstract evaluator gives them. Program-independent.
-/
import Derived.Test.YtagogibgoknncaaGreatDoorBC
import Derived.Laws.StructEq
set_option linter.unusedSectionVars false
set_option linter.unusedVariables false
set_option linter.unusedSimpArgs false
namespace Go.B
variable [iok : OkC]
theorem af0 (a b : List UInt8) : enc (a ++ b) = enc a * 256 ^ b.length + enc b := by
 have key : ∀ (b : List UInt8) (n : Nat), List.foldl (fun n (b : UInt8) => n * 256 + b.toNat) n b = n * 256 ^ b.length + enc b := by
  intro b
  induction b with
  | nil => intro n; simp [enc]
  | cons x b ih =>
    intro n
    have e1 : enc (x :: b) = (x.toNat) * 256 ^ b.length + enc b := by
     show List.foldl _ _ b = _
     rw [ih]; simp
    rw [e1, List.foldl_cons, ih, List.length_cons, Nat.pow_succ, Nat.add_mul, Nat.mul_assoc, Nat.mul_comm 256, Nat.add_assoc]
 unfold enc
 rw [List.foldl_append, key]
 rfl
theorem enc_lt (a : List UInt8) : enc a < 256 ^ a.length := by
 induction a with
 | nil => simp [enc]
 | cons x a ih =>
   have := af0 [x] a
   simp only [List.singleton_append] at this
   rw [this, List.length_cons, Nat.pow_succ]
   have hx : enc [x] = x.toNat := by simp [enc]
   have := x.toNat_lt
   rw [hx]
   have h2 : x.toNat * 256 ^ a.length ≤ 255 * 256 ^ a.length := Nat.mul_le_mul_right _ (by omega)
   omega
theorem enc_inj : ∀ {a b : List UInt8}, a.length = b.length → enc a = enc b → a = b
 | [], [], _, _ => rfl
 | x :: a, y :: b, hl, he => by
   have h1 := af0 [x] a
   have h2 := af0 [y] b
   simp only [List.singleton_append] at h1 h2
   have hl' : a.length = b.length := by simpa using hl
   rw [h1, h2, hl'] at he
   have hx : enc [x] = x.toNat := by simp [enc]
   have hy : enc [y] = y.toNat := by simp [enc]
   rw [hx, hy] at he
   have la := enc_lt a
   have lb := enc_lt b
   rw [hl'] at la
   have hp : 0 < 256 ^ b.length := Nat.pos_of_ne_zero (by simp)
   have e1 : x.toNat = y.toNat := by
    have q1 : (x.toNat * 256 ^ b.length + enc a) / 256 ^ b.length = x.toNat := by
     rw [Nat.mul_comm, Nat.mul_add_div hp, Nat.div_eq_of_lt la]; rfl
    have q2 : (y.toNat * 256 ^ b.length + enc b) / 256 ^ b.length = y.toNat := by
     rw [Nat.mul_comm, Nat.mul_add_div hp, Nat.div_eq_of_lt lb]; rfl
    rw [← q1, ← q2, he]
   rw [e1] at he
   rw [UInt8.toNat_inj.1 e1, enc_inj hl' (by omega)]
 | [], _ :: _, hl, _ => by simp at hl
 | _ :: _, [], hl, _ => by simp at hl
theorem enc_take (a : List UInt8) (n : Nat) : enc (a.take n) = enc a / 256 ^ (a.length - n) := by
 have h := af0 (a.take n) (a.drop n)
 rw [List.take_append_drop] at h
 have hp : 0 < 256 ^ (a.drop n).length := Nat.pos_of_ne_zero (by simp)
 rw [h, List.length_drop, Nat.mul_comm, Nat.mul_add_div (by simpa using hp), Nat.div_eq_of_lt (by have := enc_lt (a.drop n); simpa using this)]
 rfl
theorem enc_drop (a : List UInt8) (n : Nat) : enc (a.drop n) = enc a % 256 ^ (a.length - n) := by
 have h := af0 (a.take n) (a.drop n)
 rw [List.take_append_drop] at h
 rw [h, List.length_drop, Nat.mul_add_mod_self_right, Nat.mod_eq_of_lt (by have := enc_lt (a.drop n); simpa using this)]
theorem enc_cut (a : List UInt8) (l h : Nat) (h1 : l ≤ h) (h2 : h ≤ a.length) : enc ((a.drop l).take (h - l)) = enc a / 256 ^ (a.length - h) % 256 ^ (h - l) := by
 have e : (a.drop l).take (h - l) = (a.take h).drop l := by rw [List.drop_take]
 rw [e, enc_drop, enc_take, List.length_take, Nat.min_eq_left h2]
theorem enc_at (a : List UInt8) (n : Nat) (x : UInt8) (h : a[n]? = some x) : x.toNat = enc a / 256 ^ (a.length - 1 - n) % 256 := by
 have hn : n < a.length := ai4 h
 have e : (a.drop n).take 1 = [x] := by
  rw [List.drop_eq_getElem_cons hn]
  have : a[n] = x := by rw [List.getElem?_eq_getElem hn] at h; simpa using h
  simp [this]
 have := enc_cut a n (n + 1) (by omega) hn
 rw [show n + 1 - n = 1 by omega, e] at this
 have hx : enc [x] = x.toNat := by simp [enc]
 rw [hx] at this
 rw [this, show a.length - (n + 1) = a.length - 1 - n by omega]
theorem am5 (a : ByteArray) : a.toList = a.data.toList := ByteArray.toList_eq a
theorem str_eq (a b : ByteArray) : (a.data.toList.length == b.data.toList.length && enc a.data.toList == enc b.data.toList) = (a.toList == b.toList) := by
 rw [am5, am5, Bool.eq_iff_iff]
 simp only [Bool.and_eq_true, beq_iff_eq]
 exact ⟨fun h => enc_inj h.1 h.2, fun h => by rw [h]; exact ⟨rfl, rfl⟩⟩
section
variable {P : Program} {w : World} {g : G} {H : Hp} {nx : Nat} {tmps : Array Value} {sl : Nat → V} {ds : List Deferred}
theorem val_bin (h : SlR g tmps sl) {o : Oper} {T yT : TypeId} {op : BinOp} {op' : BinO} {a b : Operand} {x y : AO} {e : V} (ho : o.op = .binOp op T a b yT) (hop : op = op'.to)
  (h1 : opd a x = true) (h2 : opd b y = true) (hx : evX sl H (.bin op' x y) = some e) : Val P w g o { tmps, defers := ds } e := by
 subst hop
 simp only [evX] at hx
 have va := e9 (ds := ds) h h1
 have vb := e9 (ds := ds) h h2
 generalize evO sl x = ta at va hx
 generalize evO sl y = tb at vb hx
 unfold aq5 at hx
 split at hx
 ·rename_i k a1 k' b1
  split at hx
  ·rename_i hk
   subst hk
   have ea := ay5 va
   have eb := ay5 vb
   split at hx <;> first
    | (cases hx; refine ⟨_, ?_, .i _ _⟩; simp [execOp, ho, ea, eb, eqGuard, binOp, BinO.to, Op.intArith, Op.intBits, Op.intCmp]; done)
    | (cases hx; refine ⟨_, ?_, .b _⟩; simp [execOp, ho, ea, eb, eqGuard, binOp, BinO.to, Op.intArith, Op.intBits, Op.intCmp]; done)
    | (split at hx
       ·cases hx
       ·rename_i hb0
        cases hx; refine ⟨_, ?_, .i _ _⟩; simp [execOp, ho, ea, eb, eqGuard, binOp, BinO.to, Op.intDiv, hb0])
  ·cases hx
 ·rename_i la a1 lb b1
  obtain ⟨ba, rfl, rfl, ea⟩ := vr_s va
  obtain ⟨bb, rfl, rfl, eb⟩ := vr_s vb
  split at hx <;> first
   | (cases hx; done)
   | (cases hx; refine ⟨_, ?_, .b _⟩; simp only [str_eq]; simp [execOp, ho, ea, eb, eqGuard, binOp, BinO.to, Op.stringOp, bne]; done)
   | (split at hx
      ·rename_i hle
       cases hx
       have hle' : ¬ (((ba.size + bb.size : Nat) : Int) > IntKind.i64.max) := by
        simp [IntKind.max, IntKind.bits, IntKind.signed]
        have := ba.size_data; have := bb.size_data
        simp at hle
        omega
       refine ⟨.string (ba ++ bb), ?_, ?_⟩
       ·simp only [execOp, ho, ea, eb, eqGuard, binOp, BinO.to, Op.stringOp, if_neg hle']
        rfl
       ·have := VR.s (g := g) (ba ++ bb)
        rw [ByteArray.data_append, Array.toList_append, List.length_append, af0] at this
        exact this
      ·cases hx)
 ·cases hx
theorem basic_of {t k : Nat} (h : aa2 P t k = true) : (k = 0 ∧ P.underlying t = some .bool) ∨ (k = 1 ∧ ∃ i, P.underlying t = some (.int i)) ∨ (k = 2 ∧ P.underlying t = some .string) := by
 unfold aa2 at h
 split at h <;> first | (cases h; done) | simp_all
theorem basic_bool {t : TypeId} (h : aa2 P t 0 = true) : P.underlying t = some .bool := by
 rcases basic_of h with ⟨_, h⟩ | ⟨h, _⟩ | ⟨h, _⟩ <;> first | exact h | cases h
theorem val_beq (h : SlR g tmps sl) {o : Oper} {T yT : TypeId} {op : BinOp} {ng : Bool} {a b : Operand} {x y : AO} {e : V} (ho : o.op = .binOp op T a b yT) (hop : op = if ng then .neq else .eql)
  (hb : aa2 P T 0 = true) (h1 : opd a x = true) (h2 : opd b y = true) (hx : evX sl H (.beq ng x y) = some e) : Val P w g o { tmps, defers := ds } e := by
 have hu := basic_bool hb
 simp only [evX] at hx
 split at hx
 ·rename_i p q e1 e2
  have va := vr_b (e1 ▸ e9 (ds := ds) h h1)
  have vb := vr_b (e2 ▸ e9 (ds := ds) h h2)
  cases hx
  refine ⟨_, ?_, .b _⟩
  have hq : (Op.equal T (.bool p) (.bool q)).run P w = .ok (p == q) w := Go.run_equalIn_bool' w 9999 T p q hu
  cases ng <;> simp only [if_true, Bool.false_eq_true, if_false] at hop ⊢ <;> subst hop
  ·have hb : binOp .eql T (.bool p) (.bool q) = (do pure (.bool (← Op.equal T (.bool p) (.bool q)))) := rfl
   simp [execOp, ho, va, vb, eqGuard, hb, hq]
  ·have hb : binOp .neq T (.bool p) (.bool q) = (do pure (.bool (!(← Op.equal T (.bool p) (.bool q))))) := rfl
   simp [execOp, ho, va, vb, eqGuard, hb, hq]
 ·cases hx
theorem val_not (h : SlR g tmps sl) {o : Oper} {T : TypeId} {op : UnOp} {a : Operand} {x : AO} {e : V} (ho : o.op = .unOp op T a) (hop : op = .not)
  (h1 : opd a x = true) (hx : evX sl H (.not x) = some e) : Val P w g o { tmps, defers := ds } e := by
 subst hop
 simp only [evX] at hx
 split at hx
 ·rename_i b e1
  have va := vr_b (e1 ▸ e9 (ds := ds) h h1)
  cases hx
  exact ⟨_, by simp [execOp, ho, va, Op.unary], .b _⟩
 ·cases hx
theorem val_neg (h : SlR g tmps sl) {o : Oper} {T : TypeId} {op : UnOp} {a : Operand} {x : AO} {e : V} (ho : o.op = .unOp op T a) (hop : op = .neg)
  (h1 : opd a x = true) (hx : evX sl H (.neg x) = some e) : Val P w g o { tmps, defers := ds } e := by
 subst hop
 simp only [evX] at hx
 split at hx
 ·rename_i k n e1
  have va := ay5 (e1 ▸ e9 (ds := ds) h h1)
  cases hx
  exact ⟨_, by simp [execOp, ho, va, Op.unary, Op.intArith], .i _ _⟩
 ·cases hx
theorem val_shl (h : SlR g tmps sl) {o : Oper} {T yT : TypeId} {op : BinOp} {a b : Operand} {x y : AO} {e : V} (ho : o.op = .binOp op T a b yT) (hop : op = .shl)
  (h1 : opd a x = true) (h2 : opd b y = true) (hx : evX sl H (.shl x y) = some e) : Val P w g o { tmps, defers := ds } e := by
 subst hop
 simp only [evX] at hx
 have va := e9 (ds := ds) h h1
 have vb := e9 (ds := ds) h h2
 generalize evO sl x = ta at va hx
 generalize evO sl y = tb at vb hx
 unfold shlV at hx
 split at hx
 ·rename_i k n k' m
  split at hx
  ·cases hx
  ·rename_i hm
   have ea := ay5 va
   have eb := ay5 vb
   cases hx
   refine ⟨_, ?_, .i _ _⟩
   simp [execOp, ho, ea, eb, eqGuard, binOp, Op.shift, hm]
 ·cases hx
theorem val_shr (h : SlR g tmps sl) {o : Oper} {T yT : TypeId} {op : BinOp} {a b : Operand} {x y : AO} {e : V} (ho : o.op = .binOp op T a b yT) (hop : op = .shr)
  (h1 : opd a x = true) (h2 : opd b y = true) (hx : evX sl H (.shr x y) = some e) : Val P w g o { tmps, defers := ds } e := by
 subst hop
 simp only [evX] at hx
 have va := e9 (ds := ds) h h1
 have vb := e9 (ds := ds) h h2
 generalize evO sl x = ta at va hx
 generalize evO sl y = tb at vb hx
 unfold shrV at hx
 split at hx
 ·rename_i k n k' m
  split at hx
  ·cases hx
  ·rename_i hm
   have ea := ay5 va
   have eb := ay5 vb
   cases hx
   refine ⟨_, ?_, .i _ _⟩
   simp [execOp, ho, ea, eb, eqGuard, binOp, Op.shift, hm]
 ·cases hx
theorem val_cnv (h : SlR g tmps sl) {o : Oper} {S D : TypeId} {k : IntKind} {a : Operand} {x : AO} {e : V} (ho : o.op = .convert S D a) (hS : (P.underlying S).isSome = true) (hD : P.underlying D = some (.int k))
  (h1 : opd a x = true) (hx : evX sl H (.cnv k x) = some e) : Val P w g o { tmps, defers := ds } e := by
 simp only [evX] at hx
 split at hx
 ·rename_i k' n e1
  have va := ay5 (e1 ▸ e9 (ds := ds) h h1)
  cases hx
  obtain ⟨dS, hS⟩ := Option.isSome_iff_exists.1 hS
  exact ⟨_, by simp [execOp, ho, va, convert, f0 hS, f0 hD, Conv.intToInt], .i _ _⟩
 ·cases hx
theorem val_cvs (h : SlR g tmps sl) {o : Oper} {S D : TypeId} {a : Operand} {x : AO} {e : V} (ho : o.op = .convert S D a) (hS : (P.underlying S).isSome = true) (hD : P.underlying D = some .string)
  (h1 : opd a x = true) (hx : evX sl H (.cvs x) = some e) : Val P w g o { tmps, defers := ds } e := by
 simp only [evX] at hx
 split at hx
 ·rename_i l n e1
  have hv := e1 ▸ e9 (ds := ds) h h1
  obtain ⟨ba, _, _, va⟩ := vr_s hv
  cases hx
  obtain ⟨dS, hS⟩ := Option.isSome_iff_exists.1 hS
  exact ⟨.string ba, by simp [execOp, ho, va, convert, f0 hS, f0 hD], by rw [← va]; exact hv⟩
 ·cases hx
theorem val_mm (h : SlR g tmps sl) {o : Oper} {isMax : Bool} {ts : Array TypeId} {a b : Operand} {x y : AO} {e : V} (ho : o.op = .call { callee := .builtin (if isMax then .max else .min), args := #[a, b], argTypes := ts })
  (h1 : opd a x = true) (h2 : opd b y = true) (hx : evX sl H (if isMax then .mx x y else .mn x y) = some e) : Val P w g o { tmps, defers := ds } e := by
 cases isMax <;> simp only [evX, if_true, Bool.false_eq_true, if_false] at hx
 ·split at hx
  ·rename_i k m k' n e1 e2
   have va := ay5 (e1 ▸ e9 (ds := ds) h h1)
   have vb := ay5 (e2 ▸ e9 (ds := ds) h h2)
   split at hx
   ·rename_i hk
    subst hk
    cases hx
    exact ⟨_, by simp [execOp, ho, va, vb, resolve, invoke, builtin, Builtin.min_, Builtin.min2], .i _ _⟩
   ·cases hx
  ·cases hx
 ·split at hx
  ·rename_i k m k' n e1 e2
   have va := ay5 (e1 ▸ e9 (ds := ds) h h1)
   have vb := ay5 (e2 ▸ e9 (ds := ds) h h2)
   split at hx
   ·rename_i hk
    subst hk
    cases hx
    exact ⟨_, by simp [execOp, ho, va, vb, resolve, invoke, builtin, Builtin.max_, Builtin.max2], .i _ _⟩
   ·cases hx
  ·cases hx
theorem val_len (h : SlR g tmps sl) {o : Oper} {str : Bool} {T : TypeId} {a : Operand} {x : AO} {e : V} (ho : o.op = .call { callee := .builtin .len, args := #[a], argTypes := #[T] })
  (h1 : opd a x = true) (hu : (match P.underlying T, str with | some .string, true => true | some (.slice _), false => true | _, _ => false) = true) (hx : evX sl H (.len str x) = some e) :
  Val P w g o { tmps, defers := ds } e := by
 simp only [evX] at hx
 have va := e9 (ds := ds) h h1
 generalize hev : Act.eval { tmps, defers := ds } a = v at va
 generalize evO sl x = y at va hx
 split at hu <;> first | (cases hu; done) | skip
 ·rename_i hT
  cases y <;> simp only [reduceCtorEq, Option.some.injEq] at hx
  subst hx
  obtain ⟨ba, e1, _, e3⟩ := vr_s va
  subst e1 e3
  exact ⟨.int .i64 ba.data.toList.length, by simp [execOp, ho, hev, resolve, invoke, builtin, Builtin.len_, f0 hT, goInt], .i _ _⟩
 ·rename_i el hT
  cases y <;> simp only [reduceCtorEq, Option.some.injEq] at hx
  all_goals
   subst hx
   cases va
   all_goals exact ⟨_, by simp [execOp, ho, hev, resolve, invoke, builtin, Builtin.len_, f0 hT, goInt], .i _ _⟩
theorem val_cap (h : SlR g tmps sl) {o : Oper} {T : TypeId} {a : Operand} {x : AO} {e : V} (ho : o.op = .call { callee := .builtin .cap, args := #[a], argTypes := #[T] })
  (h1 : opd a x = true) (hu : (match P.underlying T with | some (.slice _) => true | _ => false) = true) (hx : evX sl H (.cap x) = some e) :
  Val P w g o { tmps, defers := ds } e := by
 simp only [evX] at hx
 split at hx
 ·rename_i e1
  have va := e1 ▸ e9 (ds := ds) h h1
  generalize hev : Act.eval { tmps, defers := ds } a = v at va
  cases hx
  cases va
  split at hu <;> first | (cases hu; done) | skip
  rename_i el hT
  exact ⟨_, by simp [execOp, ho, hev, resolve, invoke, builtin, Builtin.cap_, f0 hT, goInt], .i _ _⟩
 ·cases hx
def o8 (kind : Nat) (v : Value) (r : Bool) : Prop :=
 (kind = 0 ∧ ∃ b n c, v = .slice b n c ∧ b.isNone = r) ∨ (kind = 1 ∧ ∃ p, v = .pointer p ∧ p.isNone = r) ∨ (kind = 2 ∧ ∃ m, v = .map m ∧ m.isNone = r) ∨
 (kind = 3 ∧ ((v = .nilFunc ∧ r = true) ∨ ∃ a b c, v = .func a b c ∧ r = false)) ∨ (kind = 4 ∧ ((v = .nilIface ∧ r = true) ∨ ∃ t u, v = .iface t u ∧ r = false))
theorem bb5 {kind : Nat} {x : V} {v : Value} {r : Bool} (hv : VR g x v) (hr : isNil kind x = some r) : o8 kind v r := by
 unfold isNil at hr
 split at hr <;> first | (cases hr; done) | skip
 all_goals
  cases hr
  cases hv
  all_goals simp [o8]
theorem ad6 {c : Operand} {kind : Nat} (hc : ad7 c kind = true) : ∃ u, c = .const u ∧ o8 kind u true ∧ (∀ n m b, u = .slice b n m → n = 0 ∧ m = 0) := by
 unfold ad7 at hc
 split at hc <;> first | (cases hc; done) | exact ⟨_, rfl, by simp [o8], by simp⟩
theorem bc3 (d : Nat) {T : TypeId} {kind : Nat} (hk : al7 P T kind = true) {v u : Value} {r : Bool} (hv : o8 kind v r) (hu : o8 kind u true) :
  (Op.equalIn (d + 1) T v u).run P w = .ok r w ∧ (Op.equalIn (d + 1) T u v).run P w = .ok r w := by
 rcases hv with ⟨rfl, b, n, c, rfl, rfl⟩ | ⟨rfl, p, rfl, rfl⟩ | ⟨rfl, m, rfl, rfl⟩ | ⟨rfl, hv⟩ | ⟨rfl, hv⟩
 ·simp [o8] at hu
  obtain ⟨n', c', rfl⟩ := hu
  unfold al7 at hk
  split at hk <;> first | (cases hk; done) | skip
  all_goals rename_i h1 h2; first | (cases h2; done) | skip
  cases b <;> constructor <;> simp only [Op.equalIn, Sem.run_bind, f0 h1, Result.andThen_ok] <;> rfl
 ·simp [o8] at hu
  subst hu
  unfold al7 at hk
  split at hk <;> first | (cases hk; done) | skip
  all_goals rename_i h1 h2; first | (cases h2; done) | skip
  cases p <;> constructor <;> simp only [Op.equalIn, Sem.run_bind, f0 h1, Result.andThen_ok] <;> rfl
 ·simp [o8] at hu
  subst hu
  unfold al7 at hk
  split at hk <;> first | (cases hk; done) | skip
  all_goals rename_i h1 h2; first | (cases h2; done) | skip
  cases m <;> constructor <;> simp only [Op.equalIn, Sem.run_bind, f0 h1, Result.andThen_ok] <;> rfl
 ·simp [o8] at hu
  subst hu
  unfold al7 at hk
  split at hk <;> first | (cases hk; done) | skip
  all_goals rename_i h1 h2; first | (cases h2; done) | skip
  rcases hv with ⟨rfl, rfl⟩ | ⟨a, b, c, rfl, rfl⟩ <;> constructor <;> simp only [Op.equalIn, Sem.run_bind, f0 h1, Result.andThen_ok] <;> rfl
 ·simp [o8] at hu
  subst hu
  unfold al7 at hk
  split at hk <;> first | (cases hk; done) | skip
  all_goals rename_i h1 h2; first | (cases h2; done) | skip
  rcases hv with ⟨rfl, rfl⟩ | ⟨a, b, rfl, rfl⟩ <;> constructor <;> simp only [Op.equalIn, Sem.run_bind, f0 h1, Result.andThen_ok] <;> rfl
theorem bc4 {op : BinOp} {T : TypeId} {kind : Nat} {a b : Operand} {v u : Value} {r r' : Bool} (hk : ad7 a kind = true ∨ ad7 b kind = true) (hv : o8 kind v r) (hu : o8 kind u r') :
  (eqGuard op T a b v u).run P w = .ok () w := by
 rcases hk with hk | hk
 ·obtain ⟨x, rfl, _⟩ := ad6 hk
  cases op <;> (try rfl)
  all_goals
   unfold eqGuard
   simp only [Bool.not_true, Bool.false_eq_true, if_false]
   split
   ·rfl
   ·simp [o8] at hv
   ·rfl
 ·obtain ⟨x, rfl, _⟩ := ad6 hk
  cases op <;> (try rfl)
  all_goals
   unfold eqGuard
   simp only [Bool.not_true, Bool.false_eq_true, if_false]
   split
   ·simp
   ·simp [o8] at hv
   ·rfl
theorem binOp_nil {kind : Nat} {T : TypeId} {v u : Value} {r r' : Bool} (hv : o8 kind v r) (hu : o8 kind u r') :
  binOp .eql T v u = (do pure (.bool (← Op.equal T v u))) ∧ binOp .neq T v u = (do pure (.bool (!(← Op.equal T v u)))) := by
 rcases hv with ⟨rfl, b, n, c, rfl, rfl⟩ | ⟨rfl, p, rfl, rfl⟩ | ⟨rfl, m, rfl, rfl⟩ | ⟨rfl, hv⟩ | ⟨rfl, hv⟩
 ·simp [o8] at hu; obtain ⟨b', ⟨n', c', rfl⟩, _⟩ := hu; exact ⟨rfl, rfl⟩
 ·simp [o8] at hu; obtain ⟨p', rfl, _⟩ := hu; exact ⟨rfl, rfl⟩
 ·simp [o8] at hu; obtain ⟨m', rfl, _⟩ := hu; exact ⟨rfl, rfl⟩
 ·simp [o8] at hu
  rcases hv with ⟨rfl, rfl⟩ | ⟨a, b, c, rfl, rfl⟩ <;> rcases hu with ⟨rfl, _⟩ | ⟨⟨a', b', c', rfl⟩, _⟩ <;> exact ⟨rfl, rfl⟩
 ·simp [o8] at hu
  rcases hv with ⟨rfl, rfl⟩ | ⟨a, b, rfl, rfl⟩ <;> rcases hu with ⟨rfl, _⟩ | ⟨⟨a', b', rfl⟩, _⟩ <;> exact ⟨rfl, rfl⟩
theorem val_nleq (h : SlR g tmps sl) {o : Oper} {T yT : TypeId} {op : BinOp} {kind : Nat} {ng : Bool} {a b : Operand} {x : AO} {e : V} (ho : o.op = .binOp op T a b yT) (hop : op = if ng then .neq else .eql)
  (hk : al7 P T kind = true) (hab : (opd a x = true ∧ ad7 b kind = true) ∨ (opd b x = true ∧ ad7 a kind = true)) (hx : evX sl H (.nleq kind ng x) = some e) :
  Val P w g o { tmps, defers := ds } e := by
 simp only [evX] at hx
 cases hr : isNil kind (evO sl x) with
 | none => rw [hr] at hx; cases hx
 | some r =>
   rw [hr] at hx
   cases hx
   refine ⟨_, ?_, .b _⟩
   rcases hab with ⟨hc, hn⟩ | ⟨hc, hn⟩
   ·have va := bb5 (e9 (ds := ds) h hc) hr
    obtain ⟨u, hb, hu, _⟩ := ad6 hn
    have ev : Act.eval { tmps, defers := ds } b = u := by rw [hb]; rfl
    have q : (Op.equal T (Act.eval { tmps, defers := ds } a) u).run P w = .ok r w := (bc3 9999 hk va hu).1
    obtain ⟨s1, s2⟩ := binOp_nil (T := T) va hu
    have eg := bc4 (P := P) (w := w) (op := op) (T := T) (.inr hn : ad7 a kind = true ∨ _) va hu
    cases ng <;> simp only [if_true, Bool.false_eq_true, if_false] at hop ⊢ <;> subst hop
    ·simp [execOp, ho, ev, eg, s1, q]
    ·simp [execOp, ho, ev, eg, s2, q]
   ·have va := bb5 (e9 (ds := ds) h hc) hr
    obtain ⟨u, hb, hu, _⟩ := ad6 hn
    have ev : Act.eval { tmps, defers := ds } a = u := by rw [hb]; rfl
    have q : (Op.equal T u (Act.eval { tmps, defers := ds } b)).run P w = .ok r w := (bc3 9999 hk va hu).2
    obtain ⟨s1, s2⟩ := binOp_nil (T := T) hu va
    have eg := bc4 (P := P) (w := w) (op := op) (T := T) (.inl hn : _ ∨ ad7 b kind = true) hu va
    cases ng <;> simp only [if_true, Bool.false_eq_true, if_false] at hop ⊢ <;> subst hop
    ·simp [execOp, ho, ev, eg, s1, q]
    ·simp [execOp, ho, ev, eg, s2, q]
end
end Go.B
