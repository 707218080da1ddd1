/-
  The closed run of the law: the examples come out as they should.
-/
import Derived.Test.YtieogkafbnnjcaaGreatDoorRa
import Derived.Test.YtieogkafbnnjcaaGreatDoorBS
namespace Go.Proofs.YtieogkafbnnjcaaGreatDoor
open Go Go.B
theorem awake_true : PC Tryz.prog 6 [] (.b true) := by
 have h : ACalls Tryz.prog F0.f (F0.xs.map S.v) (hpI F0.ins) F0.nx F0.r.v (hpI (F0.outs ++ F0.ins)) F0.nx' := F0_ok
 exact PC.of_run (show ACalls Tryz.prog 6 [] (fun _ => .no) 0 (.b true) (hpI (F0.outs ++ F0.ins)) F0.nx' from h)
end Go.Proofs.YtieogkafbnnjcaaGreatDoor
