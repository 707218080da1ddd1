/-
  The deferred functions do nothing.
-/
import Derived.Test.YtagogibgoknncaaGreatDoorCodeb
import Derived.Test.YtagogibgoknncaaGreatDoorDn
import Derived.Test.YtagogibgoknncaaGreatDoorCF
import Derived.Test.YtagogibgoknncaaGreatDoorTab
namespace Go.Proofs.YtagogibgoknncaaGreatDoor
open Go Go.B
theorem nop_ok : be9 Tryz.prog nops := by
 intro f h
 simp only [nops, Bool.or_eq_true, Nat.beq_eq] at h
 rcases h with rfl | rfl
 ·exact dnop130
 ·exact dnop146
end Go.Proofs.YtagogibgoknncaaGreatDoor
