/-
  The deferred functions do nothing.
-/
import Derived.Test.YtaopnjogkgldlaaGreatDoorCodeb
import Derived.Test.YtaopnjogkgldlaaGreatDoorDn
import Derived.Test.YtaopnjogkgldlaaGreatDoorCF
import Derived.Test.YtaopnjogkgldlaaGreatDoorTab
namespace Go.Proofs.YtaopnjogkgldlaaGreatDoor
open Go Go.B
theorem nop_ok : NopOk Tryz.prog nops := by
  intro f h
  simp only [nops, Bool.or_eq_true, Nat.beq_eq] at h
  rcases h with rfl | rfl
  · exact dnop59
  · exact dnop131
end Go.Proofs.YtaopnjogkgldlaaGreatDoor
