/-
  The closed run of the law: the examples come out as they should.
-/
import Derived.Test.YtagogibgoknncaaGreatDoorRa
import Derived.Test.YtagogibgoknncaaGreatDoorBS
namespace Go.Proofs.YtagogibgoknncaaGreatDoor
open Go Go.B
theorem awake_true : PC Tryz.prog 5 [] (.b true) := by
 have h : ACalls Tryz.prog F0.f (F0.xs.map S.v) (hpI F0.ins) F0.nx F0.r.v (hpI (F0.outs ++ F0.ins)) F0.nx' := F0_ok
 exact PC.of_run (show ACalls Tryz.prog 5 [] (fun _ => .no) 0 (.b true) (hpI (F0.outs ++ F0.ins)) F0.nx' from h)
end Go.Proofs.YtagogibgoknncaaGreatDoor
