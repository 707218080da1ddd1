/-
  NARROWER THAN 'FOR EVERY INPUT', by the rows' own cells (each row's printed sentence says how): SimpFolds: loops.
  DERIVED. THE GIVEN ROWS OF THIS SEAT. 2 by the template 'for every input the law returns true; each argument reads behind the call as it read before'; 0 by the template 'total and deterministic' (their statements: YtpfocppjojgooaaTotals.lean).
  GIVEN WITH THE SEED: the statements are not yours to turn. If you find one false, say at which input.
  Laid BY PROGRAM, IN A SANDBOX (cutbox-rows.mjs): the forced cells as the released guide's own fill.sh prints them over the translation 771f110a68b4e331… (all of the seat's roots in one cut). By AI agents, Wed Nov 11 2026. No macro, syntax, notation, axiom, sorry.
-/
import Derived.Test.YtpfocppjojgooaaChecked
import GoSem.Claim
import GoSem.ClaimJoined
import GoSem.ClaimMapViews
import Derived.JoinedTies
import Derived.KernelRfl
namespace Go.Proofs.Ytpfocppjojgooaa
/- THE CELL 'sum', in the pinned program and in every row, IS THE sha256 OF THE DUMP (.gsa) THAT YtpfocppjojgooaaProg.lean LOADS. Nothing in Lean hashes anything: it is a label: what it is worth is what the hold of that sum in a sandbox is worth. -/
noncomputable def Try.pinned : Pinned := { name := "ytpfocppjojgooaa", sum := "771f110a68b4e3311cfd5fb3841a166364d905e76ab0927620635075921097f1", checked := Try.checked }
namespace Rows
def none {H : Type} : Left H := { results := [], args := [] }

/-- 'synchronylaw20.SimpFolds': WHATEVER THE INPUT: true; the input reads as it did. -/
def simpFoldsSpec : ChangeSpec := { name := "simpFolds", fn := fun _ => fun
  | [d] => { results := [.lit (.bool true)], args := [d] }
  | _ => none }
def simpFoldsRow : OpenClaim := { program := "ytpfocppjojgooaa", sum := "771f110a68b4e3311cfd5fb3841a166364d905e76ab0927620635075921097f1", func := "synchrony/synchronylaw20.SimpFolds", spec := "simpFolds", unfollowed := true, recurses := true, loops := true, apart := false }
def SimpFoldsSaid : Prop := simpFoldsRow.holds Try.pinned (OpenSpec.ofChange simpFoldsSpec)

/-- ITS FALSE NEIGHBOUR: 'it returns false'. Refute it at one input. -/
def simpFoldsWrong : ChangeSpec := { name := "simpFolds", fn := fun _ => fun
  | [d] => { results := [.lit (.bool false)], args := [d] }
  | _ => none }
def SimpFoldsWrongFalsely : Prop := simpFoldsRow.holds Try.pinned (OpenSpec.ofChange simpFoldsWrong)

/-- 'synchronylaw20.SimpValues': WHATEVER THE INPUT: true; the input reads as it did. -/
def simpValuesSpec : ChangeSpec := { name := "simpValues", fn := fun _ => fun
  | [d1, d2, d3, d4] => { results := [.lit (.bool true)], args := [d1, d2, d3, d4] }
  | _ => none }
def simpValuesRow : OpenClaim := { program := "ytpfocppjojgooaa", sum := "771f110a68b4e3311cfd5fb3841a166364d905e76ab0927620635075921097f1", func := "synchrony/synchronylaw20.SimpValues", spec := "simpValues", unfollowed := true, recurses := true, apart := false }
def SimpValuesSaid : Prop := simpValuesRow.holds Try.pinned (OpenSpec.ofChange simpValuesSpec)

/-- ITS FALSE NEIGHBOUR: 'it returns false'. Refute it at one input. -/
def simpValuesWrong : ChangeSpec := { name := "simpValues", fn := fun _ => fun
  | [d1, d2, d3, d4] => { results := [.lit (.bool false)], args := [d1, d2, d3, d4] }
  | _ => none }
def SimpValuesWrongFalsely : Prop := simpValuesRow.holds Try.pinned (OpenSpec.ofChange simpValuesWrong)

/- THE SECOND FORM. 'bulk': how many values and letters a reading holds, each counted each time it is reached (what is shared counts as often as it is met; a slice's spare places count too). A statement '..UptoSaid' is the law's where the arguments, and the package variables that the reading takes, are together of bulk at most 1048576: NARROWER than '..Said'. Prove '..Said' where nothing that the law and all that it calls make is longer than what came in: it says more and counts as full. Else prove '..UptoSaid'. A law counts once. -/
mutual
def uptoBulk {H : Type} : DataW H → Nat
  | .lit (.string bytes) => bytes.length + 1
  | .lit _ => 1
  | .nil => 1
  | .ptr d => uptoBulk d + 1
  | .slice elems spare => uptoBulkAll elems + uptoBulkAll spare + 1
  | .agg parts => uptoBulkAll parts + 1
  | .iface _ d => uptoBulk d + 1
  | .map entries => uptoBulkEntries entries + 1
  | .held _ => 1
def uptoBulkAll {H : Type} : List (DataW H) → Nat
  | [] => 0
  | d :: r => uptoBulk d + uptoBulkAll r
def uptoBulkEntries {H : Type} : List (Lit × DataW H) → Nat
  | [] => 0
  | x :: r => uptoBulkEntry x + uptoBulkEntries r
def uptoBulkEntry {H : Type} : Lit × DataW H → Nat
  | (.string bytes, d) => bytes.length + uptoBulk d + 1
  | (_, d) => uptoBulk d + 1
 end
def uptoSmall : (H : Type) → List (DataW H) → Bool := fun _ ds => decide (uptoBulkAll ds ≤ 1048576)
def OpenSpec.upto (s : _root_.Go.ChangeSpec) : _root_.Go.OpenSpec := { _root_.Go.OpenSpec.ofChange s with cond := some uptoSmall }

/-- 'synchronylaw20.SimpFolds', WHERE WHAT IT READS IS OF BULK AT MOST 1048576: true; the input reads as it did. -/
def simpFoldsUptoRow : OpenClaim := { program := "ytpfocppjojgooaa", sum := "771f110a68b4e3311cfd5fb3841a166364d905e76ab0927620635075921097f1", func := "synchrony/synchronylaw20.SimpFolds", spec := "simpFolds", unfollowed := true, recurses := true, loops := true, apart := false, narrowed := true }
def SimpFoldsUptoSaid : Prop := simpFoldsUptoRow.holds Try.pinned (OpenSpec.upto simpFoldsSpec)

/-- 'synchronylaw20.SimpValues', WHERE WHAT IT READS IS OF BULK AT MOST 1048576: true; the input reads as it did. -/
def simpValuesUptoRow : OpenClaim := { program := "ytpfocppjojgooaa", sum := "771f110a68b4e3311cfd5fb3841a166364d905e76ab0927620635075921097f1", func := "synchrony/synchronylaw20.SimpValues", spec := "simpValues", unfollowed := true, recurses := true, apart := false, narrowed := true }
def SimpValuesUptoSaid : Prop := simpValuesUptoRow.holds Try.pinned (OpenSpec.upto simpValuesSpec)

end Rows
end Go.Proofs.Ytpfocppjojgooaa
