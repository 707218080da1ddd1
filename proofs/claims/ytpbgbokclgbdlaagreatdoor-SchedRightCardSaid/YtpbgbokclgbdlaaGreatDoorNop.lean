/-
  The deferred functions do nothing.
-/
import Derived.Test.YtpbgbokclgbdlaaGreatDoorCodeb
import Derived.Test.YtpbgbokclgbdlaaGreatDoorDn
import Derived.Test.YtpbgbokclgbdlaaGreatDoorCF
import Derived.Test.YtpbgbokclgbdlaaGreatDoorTab
namespace Go.Proofs.YtpbgbokclgbdlaaGreatDoor
open Go Go.B
theorem nop_ok : bj0 Tryz.prog nops := by
 intro f h
 simp only [nops, Bool.or_eq_true, Nat.beq_eq] at h
 rcases h with rfl | rfl
 ·exact dnop148
 ·exact dnop164
end Go.Proofs.YtpbgbokclgbdlaaGreatDoor
