/-
  The deferred functions do nothing.
-/
import Derived.Test.YtmdaaicmkmgkfaaGreatDoorCodeb
import Derived.Test.YtmdaaicmkmgkfaaGreatDoorDn
import Derived.Test.YtmdaaicmkmgkfaaGreatDoorCF
import Derived.Test.YtmdaaicmkmgkfaaGreatDoorTab
namespace Go.Proofs.YtmdaaicmkmgkfaaGreatDoor
open Go Go.B
theorem nop_ok : NopOk Tryz.prog nops := by
  intro f h
  simp only [nops, Bool.or_eq_true, Nat.beq_eq] at h
  rcases h with rfl | rfl
  · exact dnop51
  · exact dnop182
end Go.Proofs.YtmdaaicmkmgkfaaGreatDoor
