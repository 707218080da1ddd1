/-
  The check of the operations on blocks. Program-independent.
-/
import Derived.Test.YtpfocppjojgooaaAbsLd
set_option linter.unusedSimpArgs false
set_option linter.unusedVariables false
namespace Go.Abs

def sliceElT (P : Program) (T : TypeId) : Option TypeId := match P.underlying T with | some (.slice e) => some e | _ => none

def chkH (P : Program) (o : Oper) : AOp → Bool
  | .bsx d wd _ => match o.op with
    | .buildSlice T 0 ⟨[]⟩ => decide (o.dst = some d) && sliceEl P T wd
    | _ => false
  | .lkp d m k kt zero agg ok => match o.op with
    | .lookup T a b ok' => decide (o.dst = some d) && ok == ok' && opd a m && opd b k && (match mapEl P T kt with | some el => zeroIs P el zero && zeroSh P el agg | none => false)
    | _ => false
  | .hpn d zero => match o.op with
    | .alloc T => decide (o.dst = some d) && zeroIs P T zero
    | _ => false
  | .hpv d x => match o.op with
    | .box _ a => decide (o.dst = some d) && opd a x
    | _ => false
  | .stp xa n x => match o.op with
    | .store T a b => decide (o.dst = none) && opd a xa && decide (szT P T = some n) && opd b x
    | _ => false
  | .mks d n wd bytes zero => match o.op with
    | .makeSlice T a b => decide (o.dst = some d) && opd a n && opd b n && (match sliceElT P T with | some el => decide (szT P el = some wd) && decide (bytesT P el = some bytes) && zeroIs P el zero | none => false)
    | _ => false
  | .mkm d => match o.op with
    | .makeMap _ none => decide (o.dst = some d)
    | _ => false
  | .mst m k v kt => match o.op with
    | .mapUpdate T a b c => decide (o.dst = none) && opd a m && opd b k && opd c v && (mapEl P T kt).isSome
    | _ => false
  | .rng d m => match o.op with
    | .range T a => decide (o.dst = some d) && opd a m && isMapT P T
    | _ => false
  | .ent d it => match o.op with
    | .entry a => decide (o.dst = some d) && opd a it
    | _ => false
  | .clr x wd zero => match o.op with
    | .call { callee := .builtin .clear, args := ⟨[a]⟩, argTypes := ⟨[T]⟩ } => decide (o.dst = none) && opd a x && (match sliceElT P T with | some el => zeroIs P el zero | none => false)
    | _ => false
  | _ => false

def killH (op : AOp) (G : Env) : Env :=
  match op with
  | .stp _ _ _ | .mst _ _ _ _ | .clr _ _ _ => G
  | .bsx d _ _ | .lkp d _ _ _ _ _ _ | .hpn d _ | .hpv d _ | .mks d _ _ _ _ | .mkm d | .rng d _ | .ent d _ => kill G d
  | _ => []

section
variable {P : Program} {w w' : World} {g g' : Gh} {tmps tmps' : Array Value} {st st' : St} {G G' : Env} {ds : List Deferred}

theorem sliceElT_spec {T el : TypeId} (h : sliceElT P T = some el) : P.underlying T = some (.slice el) := by
  unfold sliceElT at h
  split at h
  · rename_i e hu; cases h; exact hu
  · cases h

theorem hop_done (h : StR w g tmps st) (he : EnvR w tmps st G) {o : Oper} {op : AOp} (hc : chkH P o op = true) (hx : exop st op = some st') : Done P w g o { tmps, defers := ds } st' (killH op G) := by
  unfold chkH at hc
  split at hc
  all_goals try (cases hc; done)
  all_goals split at hc
  all_goals try (cases hc; done)
  all_goals rename_i ho
  all_goals simp only [Bool.and_eq_true, decide_eq_true_eq, beq_iff_eq] at hc
  · simp only [exop, Option.some.injEq] at hx; subst hx; exact done_bsx h he hc.1 ho hc.2
  · obtain ⟨⟨⟨⟨h1, h2⟩, h3⟩, h4⟩, h5⟩ := hc
    split at h5
    · rename_i el hel
      simp only [Bool.and_eq_true] at h5
      subst h2
      exact done_lkp h he h1 ho h3 h4 hel h5.1 h5.2 hx
    · cases h5
  · exact done_hpn h he hc.1 ho hc.2 hx
  · exact done_hpv h he hc.1 ho hc.2 hx
  · obtain ⟨⟨⟨h1, h2⟩, h3⟩, h4⟩ := hc
    exact done_stp h he h1 ho h2 h3 h4 hx
  · obtain ⟨⟨⟨h1, h2⟩, h3⟩, h4⟩ := hc
    split at h4
    · rename_i el hel
      simp only [Bool.and_eq_true, decide_eq_true_eq] at h4
      exact done_mks h he h1 ho h2 h3 (sliceElT_spec hel) h4.1.1 h4.1.2 h4.2 hx
    · cases h4
  · exact done_mkm h he hc ho hx
  · obtain ⟨⟨⟨⟨h1, h2⟩, h3⟩, h4⟩, h5⟩ := hc
    obtain ⟨el, hel⟩ := Option.isSome_iff_exists.1 h5
    exact done_mst h he h1 ho h2 h3 h4 hel hx
  · exact done_rng h he hc.1.1 ho hc.1.2 hc.2 hx
  · exact done_ent h he hc.1 ho hc.2 hx
  · obtain ⟨⟨h1, h2⟩, h3⟩ := hc
    split at h3
    · rename_i el hel
      exact done_clr h he h1 ho h2 (sliceElT_spec hel) h3 hx
    · cases h3

end
end Go.Abs
