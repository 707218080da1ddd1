/-
  The deferred functions do nothing.
-/
import Derived.Test.YthleepdlddlieaaGreatDoorCodeb
import Derived.Test.YthleepdlddlieaaGreatDoorDn
import Derived.Test.YthleepdlddlieaaGreatDoorCF
import Derived.Test.YthleepdlddlieaaGreatDoorTab
namespace Go.Proofs.YthleepdlddlieaaGreatDoor
open Go Go.B
theorem nop_ok : NopOk Tryz.prog nops := by
  intro f h
  simp only [nops, Bool.or_eq_true, Nat.beq_eq] at h
  rcases h with rfl | rfl
  · exact dnop112
  · exact dnop128
end Go.Proofs.YthleepdlddlieaaGreatDoor
