/-
  The closed run of the law: the page's example comes out as it should.
-/
import Derived.Test.YtodpmbaggcbaeaaGreatDoorCodeb
import Derived.Test.YtodpmbaggcbaeaaGreatDoorCE
import Derived.Test.YtodpmbaggcbaeaaGreatDoorTab
import Derived.Test.YtodpmbaggcbaeaaGreatDoorDn
import Derived.Test.YtodpmbaggcbaeaaGreatDoorBS
import Derived.KernelRfl
namespace Go.Proofs.YtodpmbaggcbaeaaGreatDoor
open Go Go.B
theorem nop_ok : NopOk Tryz.prog nops := by
  intro f h
  simp only [nops, Bool.or_eq_true, Nat.beq_eq] at h
  rcases h with rfl | rfl
  · exact dnop40
  · exact dnop114
theorem run1 : outV ((cllf tab nops noneK 3000 60).a 5 [] .nil 0) = some (.b true) := by kernel_rfl
theorem awake_true : PC Tryz.prog 5 [] (.b true) := by
  obtain ⟨h', nx', h⟩ := run_acalls (P := Tryz.prog) tab_ok nop_ok (fuel := 3000) (n := 60) (f := 5) (xs := []) (r := .b true) (by rw [← cllf_eq]; exact run1)
  exact PC.of_run h
end Go.Proofs.YtodpmbaggcbaeaaGreatDoor
