/-
  The deferred functions do nothing.
-/
import Derived.Test.YtpnamdkgodedmaaGreatDoorCodeb
import Derived.Test.YtpnamdkgodedmaaGreatDoorDn
import Derived.Test.YtpnamdkgodedmaaGreatDoorCF
import Derived.Test.YtpnamdkgodedmaaGreatDoorTab
namespace Go.Proofs.YtpnamdkgodedmaaGreatDoor
open Go Go.B
theorem nop_ok : NopOk Tryz.prog nops := by
  intro f h
  simp only [nops, Bool.or_eq_true, Nat.beq_eq] at h
  rcases h with rfl | rfl
  · exact dnop70
  · exact dnop153
end Go.Proofs.YtpnamdkgodedmaaGreatDoor
