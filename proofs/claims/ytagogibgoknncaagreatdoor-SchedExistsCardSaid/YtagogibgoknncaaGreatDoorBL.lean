/-
  What operations read; an operation where one object more is there. Program-independent.
-/
import Derived.Test.YtagogibgoknncaaGreatDoorBK
set_option linter.unusedSectionVars false
set_option linter.unusedVariables false
set_option linter.unusedSimpArgs false
namespace Go.B
variable [iok : OkC]
def rdO : AO → List Nat
 | .s n => [n]
 | .k _ => []
def rdOs : List AO → List Nat
 | [] => []
 | x :: xs => rdO x ++ rdOs xs
def rdOo : Option AO → List Nat
 | none => []
 | some x => rdO x
def rdParts : List (Nat × Nat × AO) → List Nat
 | [] => []
 | (_, _, x) :: r => rdO x ++ rdParts r
def rdX : AX → List Nat
 | .mov x | .ld x _ _ | .fad x _ | .nleq _ _ x | .not x | .neg x | .cpl x | .len _ x | .cap x | .fld x _ _ _ | .cnv _ x | .cvs x | .mki _ x | .nck x | .tas _ x | .ext x _ => rdO x
 | .pick c a b => rdO c ++ (rdO a ++ rdO b)
 | .iad x i _ | .aix x i _ _ _ | .shl x i | .shr x i => rdO x ++ rdO i
 | .bin _ x y | .beq _ x y | .seq _ _ x y | .mn x y | .mx x y | .six x y => rdO x ++ rdO y
 | .bld _ parts => rdParts parts
 | .ssl x lo hi mx _ => rdO x ++ (rdOo lo ++ (rdOo hi ++ rdOo mx))
 | .str x lo hi => rdO x ++ (rdOo lo ++ rdOo hi)
 | .mkf _ fst caps => rdOs fst ++ rdOs caps
 | .lkp m k _ _ _ _ => rdO m ++ rdO k
 | .rcv => []
 | .ssx x lo hi _ => rdO x ++ (rdO lo ++ rdO hi)
def rdA : AOp → List Nat
 | .set _ x => rdX x
 | .new _ _ _ | .mkm _ _ => []
 | .box _ _ x => rdO x
 | .bsl _ _ _ xs => rdOs xs
 | .mks _ _ n c _ _ _ => rdO n ++ rdO c
 | .stp a _ x => rdO a ++ rdO x
 | .app _ _ s x _ _ => rdO s ++ rdO x
 | .apz _ _ s n _ _ _ => rdO s ++ rdO n
 | .cpy _ a b _ => rdO a ++ rdO b
 | .clr x _ _ => rdO x
 | .mst m k v _ => rdO m ++ (rdO k ++ rdO v)
 | .mdl m k _ => rdO m ++ rdO k
 | .men _ m k _ _ _ => rdO m ++ rdO k
 | .ens m s v => rdO m ++ (rdO s ++ rdO v)
 | .cal _ _ args => rdOs args
 | .cav _ x args => rdO x ++ rdOs args
 | .inv _ x args _ => rdO x ++ rdOs args
 | .dfr x args => rdO x ++ rdOs args
def Agr (s1 s2 : Nat → V) (l : List Nat) : Prop := ∀ n, n ∈ l → s1 n = s2 n
theorem Agr.l {s1 s2 : Nat → V} {a b : List Nat} (h : Agr s1 s2 (a ++ b)) : Agr s1 s2 a := fun n hn => h n (List.mem_append_left _ hn)
theorem Agr.r {s1 s2 : Nat → V} {a b : List Nat} (h : Agr s1 s2 (a ++ b)) : Agr s1 s2 b := fun n hn => h n (List.mem_append_right _ hn)
section
variable {s1 s2 : Nat → V}
theorem i7 {x : AO} (h : Agr s1 s2 (rdO x)) : evO s1 x = evO s2 x := by
 cases x with
 | s n => simp only [evO, h n (by simp [rdO])]
 | k x => rfl
theorem ag8 : ∀ {xs : List AO}, Agr s1 s2 (rdOs xs) → ae5 s1 xs = ae5 s2 xs
 | [], _ => rfl
 | x :: xs, h => by
   have := ag8 (xs := xs) h.r
   simp only [ae5] at this ⊢
   simp only [List.map_cons, i7 (x := x) h.l, this]
theorem ax5 {d : Nat} {x : Option AO} (h : Agr s1 s2 (rdOo x)) : evIo s1 d x = evIo s2 d x := by
 cases x with
 | none => rfl
 | some x => simp only [evIo]; rw [i7 h]
theorem bldE_agr : ∀ {cs : List V} {parts : List (Nat × Nat × AO)}, Agr s1 s2 (rdParts parts) → bldE s1 cs parts = bldE s2 cs parts
 | _, [], _ => rfl
 | cs, (off, size, x) :: r, h => by
   simp only [bldE, i7 (x := x) h.l]
   split
   ·split
    ·exact bldE_agr (parts := r) h.r
    ·rfl
   ·rfl
theorem evX_agr {x : AX} {h : Hp} (hA : Agr s1 s2 (rdX x)) : evX s1 h x = evX s2 h x := by
 cases x <;> simp only [rdX] at hA
 case mov x => simp only [evX, i7 hA]
 case pick c a b => simp only [evX, i7 hA.l, i7 hA.r.l, i7 hA.r.r]
 case ld x n agg => simp only [evX, i7 hA]
 case fad x off => simp only [evX, i7 hA]
 case iad x i wd => simp only [evX, i7 hA.l, i7 hA.r]
 case bin op x y => simp only [evX, i7 hA.l, i7 hA.r]
 case beq ng x y => simp only [evX, i7 hA.l, i7 hA.r]
 case nleq kd ng x => simp only [evX, i7 hA]
 case seq ks ng x y => simp only [evX, i7 hA.l, i7 hA.r]
 case not x => simp only [evX, i7 hA]
 case neg x => simp only [evX, i7 hA]
 case cpl x => rfl
 case shl x y => simp only [evX, i7 hA.l, i7 hA.r]
 case shr x y => simp only [evX, i7 hA.l, i7 hA.r]
 case len str x => simp only [evX, i7 hA]
 case cap x => simp only [evX, i7 hA]
 case mn x y => simp only [evX, i7 hA.l, i7 hA.r]
 case mx x y => simp only [evX, i7 hA.l, i7 hA.r]
 case fld x off n agg => simp only [evX, i7 hA]
 case bld zero parts => simp only [evX, bldE_agr hA]
 case six x i => simp only [evX, i7 hA.l, i7 hA.r]
 case ssl x lo hi mx wd =>
  have hm : ∀ m, mx = some m → evO s1 m = evO s2 m := fun m e => by subst e; exact i7 hA.r.r.r
  simp only [evX, i7 hA.l, ax5 hA.r.l, ax5 hA.r.r.l]
  generalize evO s2 x = y
  generalize evIo s2 0 lo = z1
  cases y <;> try rfl
  rename_i a off wd' len cp
  dsimp only
  generalize evIo s2 len hi = z2
  cases mx with
  | none => cases z1 <;> cases z2 <;> rfl
  | some m => cases z1 <;> cases z2 <;> first | rfl | simp only [hm m rfl]
 case str x lo hi => simp only [evX, i7 hA.l, ax5 hA.r.l, ax5 hA.r.r]
 case cnv k x => simp only [evX, i7 hA]
 case cvs x => simp only [evX, i7 hA]
 case mkf f fst caps => simp only [evX, ag8 hA.l, ag8 hA.r]
 case mki t x => simp only [evX, i7 hA]
 case nck x => simp only [evX, i7 hA]
 case aix x i len n agg => simp only [evX, i7 hA.l, i7 hA.r]
 case tas t x => simp only [evX, i7 hA]
 case ext x i => simp only [evX, i7 hA]
 case lkp m k kt zero agg ok => simp only [evX, i7 hA.l, i7 hA.r]
 case rcv => rfl
 case ssx x lo hi wd => simp only [evX, i7 hA.l, i7 hA.r.l, i7 hA.r.r]
def eff (d : Option Nat) (s : St) : V × Hp := (match d with | some d => s.sl d | none => .und, s.h)
theorem appE_agr {rb d k n wd bytes nx nx2 : Nat} {h : Hp} {df df2 : List (V × List V)} (s : V) (xs : List V) :
  (appE rb ⟨s1, h, nx, df⟩ d k s xs n wd bytes).map (eff (some d)) = (appE rb ⟨s2, h, nx2, df2⟩ d k s xs n wd bytes).map (eff (some d)) := by
 unfold appE
 dsimp only
 repeat' split
 all_goals first
  | rfl
  | simp [eff, St.put, St.alc, St.chg, j5]
theorem exop_agr {rb : Nat} {op : AOp} {h : Hp} {nx nx2 : Nat} {df df2 : List (V × List V)} (hA : Agr s1 s2 (rdA op)) :
  (q9 rb ⟨s1, h, nx, df⟩ op).map (eff op.dst) = (q9 rb ⟨s2, h, nx2, df2⟩ op).map (eff op.dst) := by
 cases op <;> simp only [rdA] at hA <;> first | rfl | skip
 case set d x => simp only [q9, evX_agr hA]; cases evX s2 h x <;> simp [eff, St.put, j5, AOp.dst]
 case new d k zero => simp [q9, eff, St.alc, j5, AOp.dst]
 case box d k x => simp only [q9, i7 hA]; cases stored (evO s2 x) <;> simp [eff, St.alc, j5, AOp.dst]
 case bsl d k wd xs => simp only [q9, ag8 hA]; cases ab6 wd (ae5 s2 xs) <;> simp [eff, St.alc, j5, AOp.dst]
 case mkm d k => simp [q9, eff, St.alc, j5, AOp.dst]
 case app d k s x wd bytes =>
  simp only [q9, i7 hA.l, i7 hA.r, AOp.dst]
  split
  ·exact appE_agr _ _
  ·rfl
 case apz d k s n wd bytes zero =>
  simp only [q9, i7 hA.l, i7 hA.r, AOp.dst]
  split
  ·split
   ·exact appE_agr _ _
   ·rfl
  ·rfl
 case mks d k n c wd bytes zero =>
  simp only [q9, i7 hA.l, i7 hA.r, AOp.dst]
  repeat' split
  all_goals first | rfl | simp [eff, St.put, St.alc, St.chg, j5]
 case stp a n x =>
  simp only [q9, i7 hA.l, i7 hA.r, AOp.dst]
  repeat' split
  all_goals first | rfl | simp [eff, St.put, St.alc, St.chg, j5]
 case cpy d a b wd =>
  simp only [q9, i7 hA.l, i7 hA.r, AOp.dst]
  repeat' split
  all_goals first | rfl | simp [eff, St.put, St.alc, St.chg, j5]
 case clr x wd zero =>
  simp only [q9, i7 hA, AOp.dst]
  repeat' split
  all_goals first | rfl | simp [eff, St.put, St.alc, St.chg, j5]
 case mst m k v kt =>
  simp only [q9, i7 hA.l, i7 hA.r.l, i7 hA.r.r, AOp.dst]
  repeat' split
  all_goals first | rfl | simp [eff, St.put, St.alc, St.chg, j5]
 case mdl m k kt =>
  simp only [q9, i7 hA.l, i7 hA.r, AOp.dst]
  repeat' split
  all_goals first | rfl | simp [eff, St.put, St.alc, St.chg, j5]
 case men d m k kt zero agg =>
  simp only [q9, i7 hA.l, i7 hA.r, AOp.dst]
  repeat' split
  all_goals first | rfl | simp [eff, St.put, St.alc, St.chg, j5]
 case ens m s v =>
  simp only [q9, i7 hA.l, i7 hA.r.l, i7 hA.r.r, AOp.dst]
  repeat' split
  all_goals first | rfl | simp [eff, St.put, St.alc, St.chg, j5]
end
section
variable {h : Hp} {a : Nat} {ob : O} {sl : Nat → V}
theorem ne_c {b : Nat} {gr : Bool} {cs : List V} (ha : (h a).live = false) (hb : h b = .c gr cs) : b ≠ a := by rintro rfl; rw [hb] at ha; cases ha
theorem ne_m {b : Nat} {es : List (V × V × Nat)} {c : Nat} (ha : (h a).live = false) (hb : h b = .m es c) : b ≠ a := by rintro rfl; rw [hb] at ha; cases ha
theorem as3 {x : AX} {v : V} (ha : (h a).live = false) (hx : evX sl h x = some v) : evX sl (upd h a ob) x = some v := by
 cases x <;> first | exact hx | skip
 case ld x n agg =>
  simp only [evX] at hx ⊢
  split at hx
  ·exact hx
  ·rename_i b off e
   split at hx
   ·rename_i gr cs hb
    rw [j4 _ _ (ne_c ha hb), hb]; exact hx
   ·cases hx
  ·cases hx
 case ssx x lo hi wd =>
  simp only [evX] at hx ⊢
  unfold ssxV at hx ⊢
  split at hx
  ·split at hx
   ·rename_i gr cs hb
    simp only [j4 _ _ (ne_c ha hb), hb]; exact hx
   ·cases hx
  ·cases hx
 case lkp m k kt zero agg ok =>
  simp only [evX] at hx ⊢
  split at hx
  ·rename_i z hz
   unfold lkpV at hx ⊢
   split at hx
   ·rename_i hk
    rw [if_pos hk]
    split at hx
    ·exact hx
    ·rename_i b e
     split at hx
     ·rename_i es c hb
      simp only [j4 _ _ (ne_m ha hb), hb]; exact hx
     ·cases hx
    ·cases hx
   ·cases hx
  ·cases hx
theorem bf4 {wd : Nat} {x : V} {xs : List V} (ha : (h a).live = false) (hx : az2 h wd x = some xs) : az2 (upd h a ob) wd x = some xs := by
 unfold az2 at hx ⊢
 split at hx
 ·exact hx
 ·exact hx
 ·exact hx
 ·rename_i b off wd' len cp
  split at hx
  ·rename_i gr cs hb
   simp only [j4 _ _ (ne_c ha hb), hb]; exact hx
  ·cases hx
 ·cases hx
theorem bi1 {rb d k n wd bytes nx : Nat} {df : List (V × List V)} {s : V} {xs : List V} {st' : St} (ha : (h a).live = false) (hk : rb + k ≠ a) (hx : appE rb ⟨sl, h, nx, df⟩ d k s xs n wd bytes = some st') :
  appE rb ⟨sl, upd h a ob, nx, df⟩ d k s xs n wd bytes = some { st' with h := upd st'.h a ob } := by
 unfold appE at hx ⊢
 split at hx
 ·split at hx
  ·rename_i h0; rw [if_pos h0]; cases hx; rfl
  ·rename_i h0
   rw [if_neg h0]
   split at hx
   ·rename_i h1; rw [if_pos h1]; cases hx; simp only [St.alc]; rw [p5 _ _ _ (Ne.symm hk)]
   ·cases hx
 ·rename_i b off wd' len cp
  split at hx
  ·rename_i h0; rw [if_pos h0]; cases hx; rfl
  ·rename_i h0
   rw [if_neg h0]
   split at hx
   ·cases hx
   ·rename_i h1
    rw [if_neg h1]
    split at hx
    ·rename_i gr cs hb
     have hb' : h b = .c gr cs := hb
     have hne := ne_c ha hb'
     simp only [j4 _ _ hne, hb']
     split at hx
     ·rename_i h2
      rw [if_pos h2]
      split at hx
      ·rename_i h3; rw [if_pos h3]; cases hx; simp only [St.put, St.chg]; rw [p5 _ _ _ (Ne.symm hne)]
      ·cases hx
     ·rename_i h2
      rw [if_neg h2]
      split at hx
      ·rename_i h3
       rw [if_pos h3]
       split at hx
       ·rename_i h4; rw [if_pos h4]; cases hx; simp only [St.alc]; rw [p5 _ _ _ (Ne.symm hk)]
       ·rename_i h4
        rw [if_neg h4]
        split at hx
        ·rename_i h5; rw [if_pos h5]; cases hx; simp only [St.alc, St.chg]; rw [p5 h _ _ (Ne.symm hne), p5 _ _ _ (Ne.symm hk)]
        ·rename_i h5; rw [if_neg h5]; cases hx; simp only [St.alc, St.chg]; rw [p5 h _ _ (Ne.symm hne), p5 _ _ _ (Ne.symm hk)]
      ·cases hx
    ·cases hx
 ·cases hx
theorem exop_frame {rb : Nat} {op : AOp} {nx : Nat} {df : List (V × List V)} {st' : St} (ha : (h a).live = false) (hk : ∀ k, op.kx = some k → rb + k ≠ a) (hx : q9 rb ⟨sl, h, nx, df⟩ op = some st') :
  q9 rb ⟨sl, upd h a ob, nx, df⟩ op = some { st' with h := upd st'.h a ob } := by
 cases op <;> first | (simp [q9] at hx; done) | skip
 case set d x =>
  simp only [q9] at hx ⊢
  cases he : evX sl h x with
  | none => rw [he] at hx; cases hx
  | some v => rw [he] at hx; cases hx; rw [as3 ha he]; rfl
 case new d k zero =>
  simp only [q9, Option.some.injEq] at hx ⊢
  subst hx; simp only [St.alc]; rw [p5 _ _ _ (Ne.symm (hk k rfl))]
 case box d k x =>
  simp only [q9] at hx ⊢
  cases he : stored (evO sl x) with
  | none => rw [he] at hx; cases hx
  | some v => rw [he] at hx; cases hx; simp only [Option.map_some, St.alc]; rw [p5 _ _ _ (Ne.symm (hk k rfl))]
 case bsl d k wd xs =>
  simp only [q9] at hx ⊢
  cases he : ab6 wd (ae5 sl xs) with
  | none => rw [he] at hx; cases hx
  | some v => rw [he] at hx; cases hx; simp only [Option.map_some, St.alc]; rw [p5 _ _ _ (Ne.symm (hk k rfl))]
 case mks d k n c wd bytes zero =>
  simp only [q9] at hx ⊢
  split at hx
  ·split at hx
   ·rename_i hh; rw [if_pos hh]; cases hx; simp only [St.alc]; rw [p5 _ _ _ (Ne.symm (hk k rfl))]
   ·cases hx
  ·cases hx
 case mkm d k =>
  simp only [q9, Option.some.injEq] at hx ⊢
  subst hx; simp only [St.alc]; rw [p5 _ _ _ (Ne.symm (hk k rfl))]
 case stp x n y =>
  simp only [q9] at hx ⊢
  split at hx
  ·rename_i b off l e1 e2
   split at hx
   ·rename_i gr cs hb
    have hne := ne_c ha hb
    split at hx
    ·rename_i hh; cases hx
     simp only [j4 _ _ hne, hb, if_pos hh, St.chg]; rw [p5 _ _ _ (Ne.symm hne)]
    ·cases hx
   ·cases hx
  ·cases hx
 case app d k s x wd bytes =>
  simp only [q9] at hx ⊢
  split at hx
  ·rename_i xs n e1 e2
   rw [bf4 ha e1, e2]; exact bi1 ha (hk k rfl) hx
  ·cases hx
 case apz d k s n wd bytes zero =>
  simp only [q9] at hx ⊢
  split at hx
  ·split at hx
   ·rename_i hh; rw [if_pos hh]; exact bi1 ha (hk k rfl) hx
   ·cases hx
  ·cases hx
 case cpy d x y wd =>
  simp only [q9] at hx ⊢
  split at hx
  ·rename_i aa off wa la cp ab ob' wb lb cb e1 e2
   split at hx
   ·rename_i xs gr cs e3 e4
    have hne := ne_c ha e4
    split at hx
    ·rename_i hh; cases hx
     rw [bf4 ha e3, j4 _ _ hne, e4]
     simp only [if_pos hh, St.chg, St.put]; rw [p5 _ _ _ (Ne.symm hne)]
    ·cases hx
   ·cases hx
  ·cases hx
 case clr x wd zero =>
  simp only [q9] at hx ⊢
  split at hx
  ·split at hx
   ·rename_i gr cs hb
    have hne := ne_c ha hb
    split at hx
    ·rename_i hh; cases hx
     simp only [j4 _ _ hne, hb, if_pos hh, St.chg]; rw [p5 _ _ _ (Ne.symm hne)]
    ·cases hx
   ·cases hx
  ·cases hx
 case mst m k v kt =>
  simp only [q9] at hx ⊢
  split at hx
  ·split at hx
   ·rename_i es c hb
    have hne := ne_m ha hb
    simp only [j4 _ _ hne, hb]
    split at hx
    ·rename_i hh
     rw [if_pos hh]
     split at hx
     ·rename_i n hn
      split at hx
      ·rename_i k0 v0 b0 he; cases hx
       simp only [St.chg]; rw [p5 _ _ _ (Ne.symm hne)]
      ·cases hx
     ·cases hx; simp only [St.chg]; rw [p5 _ _ _ (Ne.symm hne)]
     ·cases hx
    ·cases hx
   ·cases hx
  ·cases hx
 case mdl m k kt =>
  simp only [q9] at hx ⊢
  split at hx
  ·split at hx
   ·rename_i es c hb
    have hne := ne_m ha hb
    simp only [j4 _ _ hne, hb]
    split at hx
    ·rename_i hh
     rw [if_pos hh]
     split at hx
     ·cases hx; simp only [St.chg]; rw [p5 _ _ _ (Ne.symm hne)]
     ·cases hx; rfl
     ·cases hx
    ·cases hx
   ·cases hx
  ·cases hx
 case men d m k kt zero agg =>
  simp only [q9] at hx ⊢
  split at hx
  ·split at hx
   ·rename_i es c hb
    have hne := ne_m ha hb
    simp only [j4 _ _ hne, hb]
    split at hx
    ·rename_i hh
     rw [if_pos hh]
     split at hx
     ·rename_i n hn
      split at hx
      ·rename_i k0 v0 b0 he; cases hx
       simp only [St.chg, St.put]; rw [p5 _ _ _ (Ne.symm hne)]
      ·cases hx
     ·cases hx; simp only [St.chg, St.put]; rw [p5 _ _ _ (Ne.symm hne)]
     ·cases hx
    ·cases hx
   ·cases hx
  ·cases hx
 case ens m s v =>
  simp only [q9] at hx ⊢
  split at hx
  ·split at hx
   ·rename_i es c hb
    have hne := ne_m ha hb
    simp only [j4 _ _ hne, hb]
    split at hx
    ·rename_i n hn
     split at hx
     ·cases hx; simp only [St.chg]; rw [p5 _ _ _ (Ne.symm hne)]
     ·cases hx
    ·cases hx
   ·cases hx
  ·cases hx
theorem OR.of_live {w w' : World} {g g' : G} {x : Nat} {o : O} (h : OR w g x o) (hl : Le g g') (hd : g.dom x) (hk : w'.heap[g.be x]? = w.heap[g.be x]?) : OR w' g' x o := h.mono hl (fun _ => hd) (fun _ => hk)
theorem upd_self {α : Type} (f : Nat → α) (n : Nat) : upd f n (f n) = f := by
 funext m; simp only [upd]; split
 ·rename_i e; rw [e]
 ·rfl
theorem upd_upd {α : Type} (f : Nat → α) (n : Nat) (x y : α) : upd (upd f n x) n y = upd f n y := by
 funext m; simp only [upd]; split <;> rfl
theorem APost.frame {P : Program} {w w' : World} {g : G} {nx nx' : Nat} {r : V} {h' : Hp} {e : Ending} (ha : (h a).live = false) (hlt : a < nx) (hlo : ob.live = true) (hH : HR w g (upd h a ob) nx) (hp : APost w g h nx r h' nx' e w') :
  APost w g (upd h a ob) nx r (upd h' a ob) nx' e w' := by
 obtain ⟨v, g', rfl, hr, hH', s, hn⟩ := hp
 have hlive : (upd h a ob a).live = true := by rw [j5]; exact hlo
 have hda := hH.dm a hlive
 have hlta := hH.lt a hda
 obtain ⟨d1, d2, d3⟩ := s.le.dom a hda
 have hno : ∀ b, (h b).live = true → g.be b ≠ g.be a := by
  intro b hb e
  have hba : b ≠ a := by rintro rfl; rw [ha] at hb; cases hb
  exact hba (hH.inj b a (by rw [j4 _ _ hba]; exact hb) hlive e)
 have hno' : ∀ b, (h' b).live = true → g'.be b ≠ g.be a := by
  intro b hb e
  rcases s.own b hb with q | ⟨c, hc, q⟩
  ·omega
  ·exact hno c hc (q.trans e)
 have hl' : ∀ x, (upd h' a ob x).live = true → x = a ∨ (x ≠ a ∧ (h' x).live = true) := by
  intro x hx
  by_cases hxa : x = a
  ·exact .inl hxa
  ·rw [j4 _ _ hxa] at hx; exact .inr ⟨hxa, hx⟩
 have hkeep : w'.heap[g.be a]? = w.heap[g.be a]? := s.keep _ hlta hno
 refine ⟨v, g', rfl, hr, ⟨fun x => ?_, fun x hx => ?_, fun x y hx hy e => ?_, hH'.nx, hH'.lt, fun c o u hz => ⟨(hH'.fz c o u hz).1, fun x hx => ?_⟩⟩, ⟨s.le, s.size, fun c hc hn => s.keep c hc (fun b hb e => ?_), fun x hx => ?_, s.dom, fun c o u hz => ?_, s.out, s.os⟩, hn⟩
 ·by_cases hxa : x = a
  ·subst hxa
   rw [j5]
   have := hH.ob x
   rw [j5] at this
   exact this.of_live s.le hda hkeep
  ·rw [j4 _ _ hxa]; exact hH'.ob x
 ·rcases hl' x hx with rfl | ⟨_, hx⟩
  ·exact d1
  ·exact hH'.dm x hx
 ·have h1 := hl' x hx
  have h2 := hl' y hy
  clear hx hy
  rcases h1 with rfl | ⟨_, hx⟩ <;> rcases h2 with rfl | ⟨_, hy⟩
  ·rfl
  ·exact (hno' y hy (e.symm.trans d2)).elim
  ·exact (hno' x hx (e.trans d2)).elim
  ·exact hH'.inj x y hx hy e
 ·rcases hl' x hx with rfl | ⟨_, hx⟩
  ·rw [d2]
   intro e
   rcases s.fzn c o u hz with q | q | ⟨b, hb, q⟩
   ·exact (hH.fz c o u q).2 x hlive e
   ·omega
   ·exact hno b hb (q.trans e.symm)
  ·exact (hH'.fz c o u hz).2 x hx
 ·have hba : b ≠ a := by rintro rfl; rw [ha] at hb; cases hb
  exact hn b (by rw [j4 _ _ hba]; exact hb) e
 ·rcases hl' x hx with rfl | ⟨_, hx⟩
  ·exact .inr ⟨x, hlive, d2.symm⟩
  ·rcases s.own x hx with q | ⟨b, hb, q⟩
   ·exact .inl q
   ·have hba : b ≠ a := by rintro rfl; rw [ha] at hb; cases hb
    exact .inr ⟨b, by rw [j4 _ _ hba]; exact hb, q⟩
 ·rcases s.fzn c o u hz with q | q | ⟨b, hb, q⟩
  ·exact .inl q
  ·exact .inr (.inl q)
  ·have hba : b ≠ a := by rintro rfl; rw [ha] at hb; cases hb
   exact .inr (.inr ⟨b, by rw [j4 _ _ hba]; exact hb, q⟩)
theorem HR.without {w : World} {g : G} {nx : Nat} (ha : (h a).live = false) (hH : HR w g (upd h a ob) nx) : HR w g h nx := by
 have := (hH.forget a ha).1
 rwa [upd_upd, upd_self] at this
theorem ACalls.frame {P : Program} {f : FuncId} {xs : List V} {nx nx' : Nat} {r : V} {h' : Hp} (ha : (h a).live = false) (hlt : a < nx) (hlo : ob.live = true) (hc : ACalls P f xs h nx r h' nx') : ACalls P f xs (upd h a ob) nx r (upd h' a ob) nx' :=
 ⟨hc.1, fun w g vs hH hv => (hc.2 w g vs (hH.without ha) hv).mono (fun e w' hp => hp.frame (P := P) ha hlt hlo hH)⟩
theorem RCalls.frame {P : Program} {i : Nat} {xs : List V} {nx nx' : Nat} {r : V} {h' : Hp} (ha : (h a).live = false) (hlt : a < nx) (hlo : ob.live = true) (hc : RCalls P i xs h nx r h' nx') : RCalls P i xs (upd h a ob) nx r (upd h' a ob) nx' := by
 intro w g vs hH hv
 obtain ⟨f, tmps, asg, bd, q1, q2⟩ := hc w g vs (hH.without ha) hv
 exact ⟨f, tmps, asg, bd, q1, q2.mono (fun e w' hp => hp.frame (P := P) ha hlt hlo hH)⟩
theorem VCalls.frame {P : Program} {x : V} {xs : List V} {nx nx' : Nat} {r : V} {h' : Hp} (ha : (h a).live = false) (hlt : a < nx) (hlo : ob.live = true) (hc : VCalls P x xs h nx r h' nx') : VCalls P x xs (upd h a ob) nx r (upd h' a ob) nx' := by
 cases x <;> simp only [VCalls] at hc ⊢
 ·exact hc.frame ha hlt hlo
 ·exact hc.frame ha hlt hlo
theorem invV_frame {tb : List (TypeId × FuncId × Option (Nat × Bool))} {x : V} {y : FuncId × V} (ha : (h a).live = false) (hx : invV h tb x = some y) : invV (upd h a ob) tb x = some y := by
 unfold invV at hx ⊢
 split at hx
 ·rename_i t v
  split at hx
  ·rename_i e he
   split at hx
   ·rename_i r hr
    have : recvV (upd h a ob) v e.2.2 = some r := by
     cases hd : e.2.2 with
     | none => rw [hd] at hr; exact hr
     | some na => obtain ⟨n, agg⟩ := na; rw [hd] at hr; simp only [recvV] at hr ⊢; exact as3 ha hr
    simp only [he, this]; exact hx
   ·cases hx
  ·cases hx
 ·cases hx
end
end Go.B
