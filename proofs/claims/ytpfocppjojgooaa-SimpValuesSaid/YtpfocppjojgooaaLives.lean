/-
  The closed examples of the law run to true, whatever the memory.
-/
import Derived.Test.YtpfocppjojgooaaCodeOk
namespace Go.Proofs.Ytpfocppjojgooaa
open Go.Abs
theorem lives_run : callP tab (exec tab 3000) 6 [] = some (.e (.c (.t (.b true)))) := by kernel_rfl
theorem lives_true : PCalls Try.prog 6 [] (.e (.c (.t (.b true)))) := run_pcalls tab_ok lives_run
#print axioms lives_true
end Go.Proofs.Ytpfocppjojgooaa
