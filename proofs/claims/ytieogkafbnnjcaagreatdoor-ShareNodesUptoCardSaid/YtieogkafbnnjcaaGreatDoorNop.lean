/-
  The deferred functions do nothing.
-/
import Derived.Test.YtieogkafbnnjcaaGreatDoorCodeb
import Derived.Test.YtieogkafbnnjcaaGreatDoorDn
import Derived.Test.YtieogkafbnnjcaaGreatDoorCF
import Derived.Test.YtieogkafbnnjcaaGreatDoorTab
namespace Go.Proofs.YtieogkafbnnjcaaGreatDoor
open Go Go.B
theorem nop_ok : bh2 Tryz.prog nops := by
 intro f h
 simp only [nops, Bool.or_eq_true, Nat.beq_eq] at h
 rcases h with rfl | rfl
 ·exact dnop130
 ·exact dnop146
end Go.Proofs.YtieogkafbnnjcaaGreatDoor
